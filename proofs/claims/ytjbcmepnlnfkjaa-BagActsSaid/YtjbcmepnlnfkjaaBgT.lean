/-
  WHAT STAYS while the model turns (MTurn); CONTRACT of the model's 'out'. No condition of its own.
-/
import Derived.Test.YtjbcmepnlnfkjaaBgS
import Derived.IntWalk
namespace Go.Proofs.Ytjbcmepnlnfkjaa
open Go Go.RowKit Go.Proofs

/-- but for blocks of the model's three kinds nothing has turned -/
def ModSide (w w' : World) : Prop := w.heap.size ≤ w'.heap.size ∧ ∀ k, k < w.heap.size → (∀ (c : Array Value) (t : TypeId) (fr : Nat × Nat), w.heap[k]? = some (Obj.cells c t fr) → t ≠ 43 ∧ t ≠ 32 ∧ t ≠ 59) → w'.heap[k]? = w.heap[k]?
theorem ModSide.refl (w : World) : ModSide w w := ⟨Nat.le_refl _, fun _ _ _ => rfl⟩
theorem ModSide.trans {a b c : World} (h : ModSide a b) (k : ModSide b c) : ModSide a c :=
  ⟨Nat.le_trans h.1 k.1, fun i hi hf => by
    have e := h.2 i hi hf
    refine (k.2 i (Nat.lt_of_lt_of_le hi h.1) (fun c t fr hc => hf c t fr (e ▸ hc))).trans e⟩
theorem ModSide.of_below {w w' : World} (h : Below w.heap.size w w') : ModSide w w' := ⟨h.size, fun k hk _ => h.block k hk⟩
theorem ModSide.grown {w w' : World} {row : Option Nat} (hg : w.grownBy w' row) (hr : ∀ k, row = some k → ∃ c t fr, w.heap[k]? = some (Obj.cells c t fr) ∧ (t = 43 ∨ t = 32 ∨ t = 59)) : ModSide w w' :=
  ⟨hg.size, fun k hk hf => hg.block k hk (fun e => by
    obtain ⟨c, t, fr, h, ht⟩ := hr k e.symm
    obtain ⟨h1, h2, h3⟩ := hf c t fr h
    rcases ht with ht | ht | ht
    · exact h1 ht
    · exact h2 ht
    · exact h3 ht)⟩
theorem ModSide.set {w : World} {q i : Nat} {Lm Lp : Value} (h : MBlk w q Lm Lp) (v : Value) : ModSide w (w.setCell ⟨q, i, none⟩ v) :=
  ⟨by simp [World.setCell], fun k _ hf => setCell_other v (fun e => by
    subst e
    exact (hf _ _ _ h).1 rfl)⟩
/-- what a call leaves that turns the model -/
def MTurn (w : World) (B q : Nat) (ms : List Msg) (ps : List (Int × Int)) (w' : World) : Prop := ModAt w' B q ms ps ∧ Below B w w' ∧ ModSide w w'
theorem MTurn.trans {w w1 w2 : World} {B q : Nat} {ms ms' : List Msg} {ps ps' : List (Int × Int)} (h : MTurn w B q ms ps w1) (k : MTurn w1 B q ms' ps' w2) : MTurn w B q ms' ps' w2 :=
  ⟨k.1, h.2.1.trans k.2.1, h.2.2.trans k.2.2⟩

theorem info32 : (Try.prog.info? 32).map (fun i => (i.zero, i.size, i.bytes)) = some (some (.agg #[.int .i64 0, .int .i64 0, .string ByteArray.empty]), 3, 32) := by kernel_rfl
theorem info59 : (Try.prog.info? 59).map (fun i => (i.zero, i.size, i.bytes)) = some (some (.agg #[.int .i64 0, .int .i64 0]), 2, 16) := by kernel_rfl

/-- the model with another row of messages -/
theorem remsg {w w1 : World} {B q n : Nat} {Lm Lp L' : Value} {xs : List Value} {ms' : List Msg} {ps : List (Int × Int)} {row : Option Nat}
    (h : MBlk w q Lm Lp) (hBq : B ≤ q) (hp : w.ownsRow B 59 2 Lp n xs) (hn : n = ps.length) (hx : xs = flatP ps) (hg : w.grownBy w1 row) (hrow : ∀ k, row = some k → B ≤ k ∧ (k < w.heap.size → ∃ c fr, w.heap[k]? = some (.cells c 32 fr)))
    (hr : w1.ownsRow B 32 3 L' ms'.length (flatS ms')) (hm : ∀ x ∈ ms', MOk x) (hps : ∀ x ∈ ps, InI64 x.1 ∧ InI64 x.2) (hBs : B ≤ w.heap.size) :
    MTurn w B q ms' ps (w1.setCell ⟨q, 0, none⟩ L') ∧ MBlk w1 q Lm Lp := by
  subst hn hx
  have hside : ∀ k c t fr, w.heap[k]? = some (Obj.cells c t fr) → t ≠ 32 → some k ≠ row := by
    intro k c t fr hc ht e
    obtain ⟨_, h2⟩ := hrow k e.symm
    obtain ⟨c', fr', hk⟩ := h2 (Array.getElem?_eq_some_iff.1 hc).1
    rw [hc] at hk
    injection hk with hk
    injection hk with _ hk _
    exact ht hk
  have h1 : MBlk w1 q Lm Lp := (hg.block q h.lt (hside q _ _ _ h (by decide))).trans h
  have hne1 : L'.ownBlock ≠ some q := by
    intro e
    obtain ⟨cc, fr, hc⟩ := own_row_kind hr q e
    have := hc.symm.trans h1
    injection this with this
    injection this with _ this _
    cases this
  have hp1 : w1.ownsRow B 59 2 Lp ps.length (flatP ps) := own_same hp (fun k c fr hc => hg.block k (Array.getElem?_eq_some_iff.1 hc).1 (hside k _ _ _ hc (by decide)))
  have hne2 : Lp.ownBlock ≠ some q := by
    intro e
    obtain ⟨cc, fr, hc⟩ := own_row_kind hp1 q e
    have := hc.symm.trans h1
    injection this with this
    injection this with _ this _
    cases this
  refine ⟨⟨⟨L', Lp, h1.set0 _, hBq, ownsRow_setCell_other hr hne1 _, ownsRow_setCell_other hp1 hne2 _, hm, hps⟩, ?_, ?_⟩, h1⟩
  · exact ((Below.refl B w).grown hg hBs (fun k hk => (hrow k hk).1)).setCell (p := ⟨q, 0, none⟩) hBq _
  · refine ModSide.trans ⟨hg.size, fun k hk hf => hg.block k hk (fun e => ?_)⟩ (ModSide.set h1 _)
    obtain ⟨c, fr, hc⟩ := (hrow k e.symm).2 hk
    exact (hf c _ fr hc).2.1 rfl

theorem own_lit3 (w : World) (e : TypeId) (s base b : Nat) (hb : b = w.heap.size) (hbase : base ≤ b) : (w.alloc (.cells #[] e)).ownsRow base e s (.slice (some ⟨b, 0, none⟩) 0 0) 0 [] := by
  subst hb
  exact ⟨by simp, .inr ⟨w.heap.size, 0, #[], rfl, hbase, heap_alloc_new w _, Nat.le_refl _, by unfold maxLen; omega, by simp, by simp⟩⟩

set_option maxRecDepth 20000 in
set_option maxHeartbeats 1600000 in
/-- (*model).out -/
theorem out_any (B q : Nat) (ms : List Msg) (ps : List (Int × Int)) (i : Nat) (w : World) (h : ModAt w B q ms ps) (hi : i < ms.length) (hl : ms.length ≤ 1000000) (hBs : B ≤ w.heap.size) :
    Calls Try.prog 25 #[.pointer (some ⟨q, 0, none⟩), .int .i64 i] w fun e w' => (∃ v, e = .returned v) ∧ MTurn w B q (ms.take i ++ ms.drop (i + 1)) ps w' ∧ (∀ k, k < w.heap.size → k ≠ q → w'.heap[k]? = w.heap[k]?) ∧ ∃ Lm Lp, MBlk w' q Lm Lp ∧ ∀ kk, Lm.ownBlock = some kk → w.heap.size ≤ kk := by
  obtain ⟨Lm, Lp, h1, h2, h3, h4, h5, h6⟩ := h
  obtain ⟨g0, cap, rfl, hg0, hglt, hnc, hcm⟩ := own_form h3 (by omega)
  have c0 := h1.c0
  have HBLK := Lib.hid h1
  have HBQ := Lib.hid h2
  have HR := Lib.hid h3
  have HP := Lib.hid h4
  have HM := Lib.hid h5
  have HPS := Lib.hid h6
  obtain ⟨i1, hj, hy0, hy1, hy2⟩ := info_parts info32
  obtain ⟨n, hn⟩ : ∃ n, ms.length = n := ⟨_, rfl⟩
  rw [hn] at c0 hl HR HBLK hnc hi
  have HN := Lib.hid hn
  clear h1 h2 h3 h4 h5 h6 hn
  have hic : i ≤ cap := by omega
  have hi1 : (i : Int) + 1 ≤ n := by omega
  have h0i : (0 : Int) ≤ (i : Int) + 1 := by omega
  have htn : ((i : Int) + 1).toNat = i + 1 := by omega
  have wr1 : IntKind.i64.wrap ((i : Int) + 1) = (i : Int) + 1 := IntWalk.i64_in _ (by omega)
  obtain ⟨ad, had, hadd⟩ : ∃ ad : Addr, (if cap = i + 1 then some (⟨g0, 0, none⟩ : Addr) else some ⟨g0, (i + 1) * 3, none⟩) = some ad ∧ (n - (i + 1) = 0 ∨ ad = ⟨g0, (i + 1) * 3, none⟩) := by
    by_cases hce : cap = i + 1
    · exact ⟨⟨g0, 0, none⟩, by rw [if_pos hce], .inl (by omega)⟩
    · exact ⟨⟨g0, (i + 1) * 3, none⟩, by rw [if_neg hce], .inr rfl⟩
  have HAD := Lib.hid hadd; clear hadd
  go_enter Try.func25, Try.ntmps25
  go_wp2_with fail
  refine wp_region_flowE [(0, 1), (2, 1), (3, 1), (4, 1), (5, 1), (6, 1), (7, 1), (9, 1), (10, 1), (11, 1), (12, 1), (13, 1), (14, 1), (15, 1), (1, 0), (8, 0), (16, 0), (17, 2), (18, 1)] 19 (fun u => u.cell? ⟨q, 0, none⟩ = some (.slice (some ⟨g0, 0, none⟩) n cap)) (by kernel_rfl) (by kernel_rfl) (fun _ _ _ _ _ h => h) (c0) ?_
  iterate 14 (refine flowE_take (v := ?_) rfl (by rfl) ?_ ?_; rotate_left 1; (· intro u hu; have c0' := hu; clear hu; go_simp; try with_reducible rfl); simp only [Act.put, List.getElem_toArray, List.getElem_cons_succ, List.getElem_cons_zero, List.setIfInBounds_toArray, List.set_cons_zero, List.set_cons_succ])
  (refine flowE_turn rfl (by rfl) (fun K hK => ?_); simp only [List.getElem_toArray, List.getElem_cons_succ, List.getElem_cons_zero]; have HKK := Lib.hid hK; clear hK; go_simp)
  have HB1 : Hid (Below w.heap.size w (w.alloc (.cells #[] 32)).drew) := ((Below.refl w.heap.size _).drew).alloc (Nat.le_refl _) _
  have HE1 : Hid ((w.alloc (.cells #[] 32)).drew.ownsRow B 32 3 (.slice (some ⟨w.heap.size, 0, none⟩) 0 0) 0 []) := own_below (own_lit3 w 32 3 B w.heap.size rfl hBs) (Below.refl _ _).drew
  have S1 : Hid ((w.alloc (.cells #[] 32)).drew.cell? ⟨q, 0, none⟩ = some (.slice (some ⟨g0, 0, none⟩) n cap)) := (HB1.out.cell (p := ⟨q, 0, none⟩) HBLK.out.lt).trans c0
  have HZ : Hid (w.heap.size < (w.alloc (.cells #[] 32)).drew.heap.size) := by
    show _ < (w.alloc (.cells #[] 32)).heap.size
    simp
  refine HKK.out _ _ ⟨fun u => u.cell? ⟨q, 0, none⟩ = some (.slice (some ⟨g0, 0, none⟩) n cap), S1.out, fun u hu => hu, ?_⟩
  clear HKK K
  generalize (w.alloc (.cells #[] 32)).drew = w1 at *
  have HR1 : Hid (w1.ownsRow B 32 3 (.slice (some ⟨g0, 0, none⟩) n cap) n (flatS ms)) := own_below HR.out HB1.out
  refine flowE_turn rfl (by rfl) (fun K hK => ?_)
  simp only [List.getElem_toArray, List.getElem_cons_succ, List.getElem_cons_zero]
  have HKK := Lib.hid hK; clear hK
  have HLT : Hid ((flatS (ms.take i)).length = i * 3) := by
    show _ = _
    rw [flatS_length, List.length_take, HN.out]
    congr 1
    omega
  refine wp_append_at _ _ 40 rfl B 32 i1 _ 3 32 Try.underlying40 hj hy0 hy1 hy2 rfl (by omega) _ 0 [] rfl HE1.out ⟨g0, 0, none⟩ i cap (flatS (ms.take i)) rfl HLT.out (fun j u hju => ?_) (flatS_one _) (by unfold maxLen; omega) (by omega) (by have := HB1.out.size; omega) ?_
  · rw [← flatS_take] at hju
    refine HR1.out.cells (g := g0) rfl j u ?_
    rw [List.getElem?_take] at hju
    split at hju
    · exact hju
    · cases hju
  intro v2 w2 ho2 hg2' hb2'
  have hg2 : w1.grownBy w2 (some w.heap.size) := hg2'
  have hb2 : v2.ownBlock = some w.heap.size ∨ v2.ownBlock = some w1.heap.size := hb2'
  clear hg2' hb2'
  have ho2' : w2.ownsRow B 32 3 v2 i (flatS (ms.take i)) := by simpa using ho2
  have HO2 := Lib.hid ho2'
  have HG2 := Lib.hid hg2
  have hne2 : v2.ownBlock ≠ some g0 := by
    intro e
    have := HB1.out.size
    rcases hb2 with h | h
    · rw [h] at e
      have := Option.some.inj e
      omega
    · rw [h] at e
      have := Option.some.inj e
      omega
  have HR2 : Hid (w2.ownsRow B 32 3 (.slice (some ⟨g0, 0, none⟩) n cap) n (flatS ms)) := HR1.out.kept hg2 (.inr (by
    intro e
    have h0 : g0 = w.heap.size := Option.some.inj e
    omega))
  have HNE2 := Lib.hid hne2
  have HV2 := Lib.hid hb2
  clear ho2 hg2 hb2 ho2' hne2
  have HQ1 : Hid (w1.heap[q]? = w.heap[q]?) := HB1.out.block q HBLK.out.lt
  have HBW2 : Hid (w2.heap[q]? = w.heap[q]?) := (HG2.out.block q (Nat.lt_of_lt_of_le HBLK.out.lt HB1.out.size) (fun e => by have h0 : q = w.heap.size := Option.some.inj e; have := HBLK.out.lt; omega)).trans HQ1.out
  have HBLK2 : Hid (MBlk w2 q (.slice (some ⟨g0, 0, none⟩) n cap) Lp) := HBW2.out.trans HBLK.out
  have HSZ2 : Hid (w1.heap.size ≤ w2.heap.size) := HG2.out.size
  refine HKK.out _ _ ⟨fun u => u.cell? ⟨q, 0, none⟩ = some (.slice (some ⟨g0, 0, none⟩) n cap), HBLK2.out.c0, fun u hu => hu, ?_⟩
  clear HKK K
  refine flowE_turn rfl (by rfl) (fun K hK => ?_)
  simp only [List.getElem_toArray, List.getElem_cons_succ, List.getElem_cons_zero]
  have HKK := Lib.hid hK; clear hK
  have HLD : Hid ((flatS (ms.drop (i + 1))).length = (n - (i + 1)) * 3) := by
    show _ = _
    rw [flatS_length, List.length_drop, HN.out]
  refine wp_append_at _ _ 40 rfl B 32 i1 _ 3 32 Try.underlying40 hj hy0 hy1 hy2 rfl (by omega) v2 i _ rfl HO2.out ad (n - (i + 1)) (cap - (i + 1)) (flatS (ms.drop (i + 1))) rfl HLD.out (fun j u hju => ?_) (flatS_one _) (by unfold maxLen; omega) (by omega) (by have := HB1.out.size; have := HSZ2.out; omega) ?_
  · have hjl := (List.getElem?_eq_some_iff.1 hju).1
    rw [HLD.out] at hjl
    rcases HAD.out with h0 | rfl
    · rw [h0] at hjl; omega
    · rw [add_plain]
      rw [← flatS_drop, List.getElem?_drop] at hju
      have := HR2.out.cells (g := g0) rfl _ _ hju
      rwa [add_plain, Nat.zero_add] at this
  intro v3 w3 ho3' hg3' hb3'
  have hfr : ∀ kk, v3.ownBlock = some kk → w.heap.size ≤ kk := by
    intro kk hk
    have hb3 : v3.ownBlock = v2.ownBlock ∨ v3.ownBlock = some w2.heap.size := hb3'
    have := HB1.out.size
    have := HSZ2.out
    rcases hb3 with h | h
    · rw [h] at hk
      rcases HV2.out with h' | h'
      · rw [h'] at hk
        have := Option.some.inj hk
        omega
      · rw [h'] at hk
        have := Option.some.inj hk
        omega
    · rw [h] at hk
      have := Option.some.inj hk
      omega
  have HFR := Lib.hid hfr
  clear hfr
  have ho3 : w3.ownsRow B 32 3 v3 (i + (n - (i + 1))) (flatS (ms.take i) ++ flatS (ms.drop (i + 1))) := ho3'
  have hg3 : w2.grownBy w3 v2.ownBlock := hg3'
  clear hg3' hb3' ho3'
  have hlen : (ms.take i ++ ms.drop (i + 1)).length = i + (n - (i + 1)) := by rw [List.length_append, List.length_take, List.length_drop, HN.out]; omega
  rw [← flatS_append, ← hlen] at ho3
  have HO3 := Lib.hid ho3
  have HG3 := Lib.hid hg3
  have hmm : ∀ x ∈ ms.take i ++ ms.drop (i + 1), MOk x := fun x hx => by
    rcases List.mem_append.1 hx with hx | hx
    · exact HM.out x (List.mem_of_mem_take hx)
    · exact HM.out x (List.mem_of_mem_drop hx)
  have hp2 : w2.ownsRow B 59 2 Lp ps.length (flatP ps) := own_same HP.out (fun k c fr hc => by
    have hk := (Array.getElem?_eq_some_iff.1 hc).1
    exact (HG2.out.block k (Nat.lt_of_lt_of_le hk HB1.out.size) (fun e => by have h0 : k = w.heap.size := Option.some.inj e; omega)).trans (HB1.out.block k hk))
  have hrm := remsg (B := B) (q := q) (ms' := ms.take i ++ ms.drop (i + 1)) (ps := ps) HBLK2.out HBQ.out hp2 rfl rfl hg3 (fun k hk => by
    obtain ⟨a1, a2⟩ := HO2.out.lt k hk
    obtain ⟨cc, fr, hc⟩ := own_row_kind HO2.out k hk
    exact ⟨a1, fun _ => ⟨cc, fr, hc⟩⟩) ho3 hmm HPS.out (by have := HB1.out.size; have := HSZ2.out; omega)
  have HMT := Lib.hid hrm.1
  have HB3 := Lib.hid hrm.2
  have HKEEP : Hid (∀ L' k, k < w.heap.size → k ≠ q → (w3.setCell ⟨q, 0, none⟩ L').heap[k]? = w.heap[k]?) := by
    intro L' k hk hkq
    rw [setCell_other _ hkq]
    have h2 : w2.heap[k]? = w.heap[k]? := (HG2.out.block k (Nat.lt_of_lt_of_le hk HB1.out.size) (fun e => by have h0 : k = w.heap.size := Option.some.inj e; omega)).trans (HB1.out.block k hk)
    refine (hg3.block k (by have := HB1.out.size; have := HSZ2.out; omega) (fun e => ?_)).trans h2
    rcases HV2.out with h | h
    · rw [h] at e
      have := Option.some.inj e
      omega
    · rw [h] at e
      have := Option.some.inj e
      have := HB1.out.size
      omega
  clear ho3 hg3 hlen hmm hp2 hrm
  have HW2 : Hid (Below B w w2 ∧ ModSide w w2) := by
    refine ⟨(HB1.out.mono hBs).grown HG2.out (by have := HB1.out.size; omega) (fun k hk => by have h0 : w.heap.size = k := Option.some.inj hk; omega), Nat.le_trans HB1.out.size HSZ2.out, fun k hk _ => ?_⟩
    exact (HG2.out.block k (Nat.lt_of_lt_of_le hk HB1.out.size) (fun e => by have h0 : k = w.heap.size := Option.some.inj e; omega)).trans (HB1.out.block k hk)
  have d0 := HB3.out.c0
  have df := HB3.out.fz 0
  refine HKK.out _ _ ⟨fun u => u.cell? ⟨q, 0, none⟩ = some (.slice (some ⟨g0, 0, none⟩) n cap), d0, fun u hu => hu, ?_⟩
  clear HKK K
  obtain ⟨A4, c4, hv4⟩ : ∃ A4 c4, v3 = .slice A4 (ms.take i ++ ms.drop (i + 1)).length c4 := by
    rcases HO3.out.2 with ⟨e, h0⟩ | ⟨q, cap, cur, e, _⟩
    · exact ⟨none, 0, by rw [e, h0]⟩
    · exact ⟨_, cap, e⟩
  subst hv4
  generalize (ms.take i ++ ms.drop (i + 1)).length = k4 at *
  simp only [Act.put, List.setIfInBounds_toArray, List.set_cons_zero, List.set_cons_succ]
  iterate 1 (refine flowE_pure (v := ?_) rfl (by rfl) ?_ ?_; rotate_left 1; (· intro u hu; skip; clear hu; go_simp; try with_reducible rfl); simp only [Act.put, List.getElem_toArray, List.getElem_cons_succ, List.getElem_cons_zero, List.setIfInBounds_toArray, List.set_cons_zero, List.set_cons_succ])
  iterate 1 (refine flowE_take (v := ?_) rfl (by rfl) ?_ ?_; rotate_left 1; (· intro u hu; skip; clear hu; go_simp; try with_reducible rfl); simp only [Act.put, List.getElem_toArray, List.getElem_cons_succ, List.getElem_cons_zero, List.setIfInBounds_toArray, List.set_cons_zero, List.set_cons_succ])
  (refine flowE_end rfl (by rfl) (fun K hK => ?_); simp only [List.getElem_toArray, List.getElem_cons_succ, List.getElem_cons_zero]; have HKK := Lib.hid hK; clear hK; go_simp)
  refine HKK.out _ _ ?_
  clear HKK K
  go_wp2_with fail
  go_end0
  exact ⟨⟨_, rfl⟩, ⟨HMT.out.1, HW2.out.1.trans HMT.out.2.1, HW2.out.2.trans HMT.out.2.2⟩, fun kk hk hkq => HKEEP.out _ kk hk hkq, _, _, HB3.out.set0 _, HFR.out⟩
end Go.Proofs.Ytjbcmepnlnfkjaa
