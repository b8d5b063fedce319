/-
  CONTRACTS of bag.Part and bag.Heal at a bag that was made. No condition of its own.
-/
import Derived.Test.YtjbcmepnlnfkjaaBgT
namespace Go.Proofs.Ytjbcmepnlnfkjaa
open Go Go.RowKit Go.Proofs

/-- but for the block m nothing has turned -/
def OnlyMap (m : Nat) (w w' : World) : Prop := w.heap.size ≤ w'.heap.size ∧ ∀ k, k < w.heap.size → k ≠ m → w'.heap[k]? = w.heap[k]?
theorem OnlyMap.of_below {m : Nat} {w w' : World} (h : Below w.heap.size w w') : OnlyMap m w w' := ⟨h.size, fun k hk _ => h.block k hk⟩
theorem OnlyMap.trans {m : Nat} {a b c : World} (h : OnlyMap m a b) (k : OnlyMap m b c) : OnlyMap m a c :=
  ⟨Nat.le_trans h.1 k.1, fun i hi hm => (k.2 i (Nat.lt_of_lt_of_le hi h.1) hm).trans (h.2 i hi hm)⟩
theorem OnlyMap.grown {m : Nat} {w w' : World} (hg : w.grownBy w' (some m)) : OnlyMap m w w' :=
  ⟨hg.size, fun k hk hm => hg.block k hk (fun e => hm (Option.some.inj e))⟩
theorem OnlyMap.bag {m : Nat} {w w' : World} {B : Nat} {P : Nat → Prop} {g : Nat} {ms : List Msg} (h : OnlyMap m w w') (hb : BagAt w B P g m ms) (hm : IsMp w m) : BagAt w' B P g m ms :=
  hb.other fun k c t fr hk _ => h.2 k (Array.getElem?_eq_some_iff.1 hk).1 (fun e => by
    obtain ⟨es, cl, hm⟩ := hm
    rw [e, hm] at hk
    cases hk)
theorem OnlyMap.model {m : Nat} {w w' : World} {B q : Nat} {ms : List Msg} {ps : List (Int × Int)} (h : OnlyMap m w w') (hb : ModAt w B q ms ps) (hm : IsMp w m) : ModAt w' B q ms ps :=
  hb.keep fun k c t fr hk _ => h.2 k (Array.getElem?_eq_some_iff.1 hk).1 (fun e => by
    obtain ⟨es, cl, hm⟩ := hm
    rw [e, hm] at hk
    cases hk)

/-- the pair of a and b more, where they are two -/
def addp (S : Int → Int → Bool) (a b x y : Int) : Bool := (decide (a ≠ b) && decide (x = min a b ∧ y = max a b)) || S x y

set_option maxHeartbeats 800000 in
/-- (*Bag).Part -/
theorem part_any (B : Nat) (P : Nat → Prop) (g m n : Nat) (ms : List Msg) (S : Int → Int → Bool) (a b : Int) (w : World) (h : BagAt w B P g m ms) (hm : PMap w m n S) (ha : InI64 a) (hb : InI64 b) (hn : n < maxLen) (hBm : B ≤ m) (hBs : B ≤ w.heap.size) :
    Calls Try.prog 19 #[.pointer (some ⟨g, 0, none⟩), .int .i64 a, .int .i64 b] w fun e w' => (∃ v, e = .returned v) ∧ BagAt w' B P g m ms ∧ PMap w' m (n + 1) (addp S a b) ∧ Below B w w' ∧ OnlyMap m w w' := by
  have HBAG := Lib.hid h
  have HM := Lib.hid hm
  obtain ⟨L, vs, hblk, _⟩ := h
  have HI := Lib.hid (is_any g m L w hblk)
  have c1 := hblk.c1
  have HL := Lib.hid hblk.lt
  have HA := Lib.hid (inI_min ha hb)
  have HB := Lib.hid (inI_max ha hb)
  have HN := Lib.hid hn
  clear hm hblk ha hb hn
  by_cases hab : a = b
  · subst hab
    go_enter Try.func19, Try.ntmps19
    go_wp2_with fail
    refine HI.out.mono ?_
    rintro e w1 ⟨rfl, rfl⟩
    go_wp2_with fail
    go_end0
    refine ⟨⟨_, rfl⟩, HBAG.out, ?_, Below.refl _ _, Nat.le_refl _, fun _ _ _ => rfl⟩
    have e : addp S a a = S := by funext x y; simp [addp]
    rw [e]
    obtain ⟨D, h1, h2, h3⟩ := HM.out
    exact ⟨D, h1.mono (Nat.le_succ n), h2, h3⟩
  · have HAB := Lib.hid hab
    have hab' : (a != b) = true := by simp [hab]
    clear hab
    go_enter Try.func19, Try.ntmps19
    go_wp2_with fail
    refine HI.out.mono ?_
    rintro e w1 ⟨rfl, rfl⟩
    go_wp2_with fail
    refine wp_region_flowE [(0, 1), (1, 1), (2, 1), (3, 1), (4, 1), (5, 1), (6, 0)] 7 (fun u => Below w.heap.size w u) (by kernel_rfl) (by kernel_rfl) (fun _ _ _ _ _ h => h) ((Below.refl _ _).drew) ?_
    iterate 6 (refine flowE_take (v := ?_) rfl (by rfl) ?_ ?_; rotate_left 1; (· intro u hu; have c1' := (hu.cell (p := ⟨g, 1, none⟩) HL.out).trans c1; clear hu; go_simp; try with_reducible rfl); simp only [Act.put, List.getElem_toArray, List.getElem_cons_succ, List.getElem_cons_zero, List.setIfInBounds_toArray, List.set_cons_zero, List.set_cons_succ])
    (refine flowE_turn rfl (by rfl) (fun K hK => ?_); simp only [List.getElem_toArray, List.getElem_cons_succ, List.getElem_cons_zero]; have HKK := Lib.hid hK; clear hK; go_simp)
    refine (pair_any a b _).mono ?_
    rintro e w2 ⟨rfl, hb2⟩
    have H2 : Hid (Below w.heap.size w w2) := Below.trans ((Below.refl w.heap.size _).drew) hb2
    clear hb2
    obtain ⟨w3, hrun, hp3, hg3⟩ := (HM.out.below H2.out).put HN.out HA.out HB.out
    have HP3 : Hid (PMap w3 m (n + 1) (addp S a b)) := by
      have e : addp S a b = fun x y => decide (x = min a b ∧ y = max a b) || S x y := by funext x y; unfold addp; rw [decide_eq_true (p := a ≠ b) HAB.out, Bool.true_and]
      rw [e]
      exact hp3
    have HG3 := Lib.hid hg3
    clear hp3 hg3
    refine HKK.out _ _ ⟨fun u => Below w.heap.size w u, H2.out, fun u hu => hu, ?_⟩
    clear HKK K
    obtain ⟨x, hx⟩ : ∃ x, min a b = x := ⟨_, rfl⟩
    obtain ⟨y, hy⟩ : ∃ y, max a b = y := ⟨_, rfl⟩
    rw [hx, hy] at hrun
    rw [hx, hy]
    clear hx hy HA HB
    (refine flowE_end rfl (by rfl) (fun K hK => ?_); simp only [List.getElem_toArray, List.getElem_cons_succ, List.getElem_cons_zero]; have HKK := Lib.hid hK; clear hK; go_simp)
    refine HKK.out _ _ ?_
    clear HKK K hrun
    go_wp2_with fail
    go_end0
    have HO : OnlyMap m w w3 := (OnlyMap.of_below H2.out).trans (OnlyMap.grown HG3.out)
    exact ⟨⟨_, rfl⟩, HO.bag HBAG.out HM.out.isMp, HP3.out, (H2.out.mono hBs).grown HG3.out (by have := H2.out.size; omega) (fun k hk => by have h0 : m = k := Option.some.inj hk; omega), HO⟩

set_option maxHeartbeats 800000 in
/-- (*Bag).Heal -/
theorem heal_any (B : Nat) (P : Nat → Prop) (g m n : Nat) (ms : List Msg) (S : Int → Int → Bool) (w : World) (h : BagAt w B P g m ms) (hm : PMap w m n S) (hBm : B ≤ m) (hBs : B ≤ w.heap.size) :
    Calls Try.prog 20 #[.pointer (some ⟨g, 0, none⟩)] w fun e w' => (∃ v, e = .returned v) ∧ BagAt w' B P g m ms ∧ PMap w' m 0 none_ ∧ Below B w w' ∧ OnlyMap m w w' := by
  have HBAG := Lib.hid h
  have HM := Lib.hid hm
  obtain ⟨L, vs, hblk, _⟩ := h
  have HI := Lib.hid (is_any g m L w hblk)
  have c1 := hblk.c1
  obtain ⟨w3, hrun, hp3, hg3⟩ := hm.clear 0
  have HP3 := Lib.hid hp3
  have HG3 := Lib.hid hg3
  clear hm hblk hp3 hg3
  go_enter Try.func20, Try.ntmps20
  go_wp2_with fail
  refine HI.out.mono ?_
  rintro e w1 ⟨rfl, rfl⟩
  go_wp2_with fail
  go_end0
  have HO : OnlyMap m w w3 := OnlyMap.grown HG3.out
  exact ⟨⟨_, rfl⟩, HO.bag HBAG.out HM.out.isMp, HP3.out, (Below.refl _ _).grown HG3.out hBs (fun k hk => by have h0 : m = k := Option.some.inj hk; omega), HO⟩
end Go.Proofs.Ytjbcmepnlnfkjaa
