/-
  CONTRACT of bag.Post.
-/
import Derived.Test.YtjbcmepnlnfkjaaBgD
import Derived.Test.YtjbcmepnlnfkjaaBgFlowE
namespace Go.Proofs.Ytjbcmepnlnfkjaa
open Go Go.RowKit Go.Proofs

theorem info55 : (Try.prog.info? 55).map (fun i => (i.zero, i.size, i.bytes)) = some (some (.agg #[.int .i64 0, .int .i64 0, .slice none 0 0]), 3, 40) := by kernel_rfl

theorem cell_three_new (w : World) (x y z : Value) (t : TypeId) (b : Nat) (hb : b = w.heap.size) : ∀ j u, [x, y, z][j]? = some u → (w.alloc (.cells #[x, y, z] t)).cell? ((⟨b, 0, none⟩ : Addr).add j) = some u := by
  subst hb
  intro j u hj
  match j, hj with
  | 0, hj => simp at hj; subst hj; simp [Addr.add]
  | 1, hj => simp at hj; subst hj; simp [Addr.add]
  | 2, hj => simp at hj; subst hj; simp [Addr.add]
theorem three_oneCell (a b : Int) (A : Option Addr) (n c : Nat) : ∀ u ∈ [Value.int .i64 a, Value.int .i64 b, Value.slice A n c], u.oneCell' = true := by simp [Value.oneCell']

theorem wp_append_at {P : Program} {w : World} {o : Oper} {a : Act} {K : Act → World → Prop} {Q : Exit → Act → World → Prop} (s x : Operand) (t : TypeId)
    (ho : o.op = .call { callee := .builtin .append, args := #[s, x], argTypes := #[t, t] })
    (base : Nat) (e : TypeId) (i : TypeInfo) (z : Value) (size bytes : Nat) (ht : P.underlying t = some (.slice e)) (hi : P.info? e = some i) (hz : i.zero = some z)
    (hsize : i.size = size) (hby : i.bytes = bytes) (hzs : z.cells.size = size) (hsz : 0 < size)
    (v : Value) (n : Nat) (xs : List Value) (hs : a.eval s = v) (hown : w.ownsRow base e size v n xs)
    (ad : Addr) (m c : Nat) (news : List Value) (hx : a.eval x = .slice (some ad) m c) (hl : news.length = m * size) (hnews : ∀ j u, news[j]? = some u → w.cell? (ad.add j) = some u) (h1 : ∀ u ∈ news, u.oneCell' = true)
    (h63 : n + m ≤ maxLen) (hbytes : (n + m) * bytes ≤ 140737488355328) (hbase : base ≤ w.heap.size)
    (h : ∀ v' w', w'.ownsRow base e size v' (n + m) (xs ++ news) → w.grownBy w' v.ownBlock → (v'.ownBlock = v.ownBlock ∨ v'.ownBlock = some w.heap.size) → K (a.put o.dst v') w') : o.wp P a w K Q := by
  obtain ⟨v', w', hr, h2, h3, _, h5⟩ := run_append_own_at (P := P) w base t o.type e i z size bytes ht hi hz hsize hby hzs hsz v n xs hown ad m c news hl hnews h1 h63 hbytes hbase
  unfold Oper.wp execOp
  simp only [ho, resolve, invoke, builtin, Sem.run_bind, Sem.run_pure, Result.andThen_ok, List.map_toArray, List.map_cons, List.map_nil, hs, hx, hr]
  exact h v' w' h2 h3 h5

/-- what a call leaves that turns a bag -/
def Turned (w : World) (B : Nat) (P : Nat → Prop) (g m : Nat) (ms : List Msg) (w' : World) : Prop := BagAt w' B P g m ms ∧ Below B w w' ∧ Beside m w w' ∧ w'.heap[m]? = w.heap[m]?

set_option maxRecDepth 20000 in
set_option maxHeartbeats 400000 in
theorem post_full (B : Nat) (P : Nat → Prop) (g m : Nat) (ms : List Msg) (f t : Int) (A : Option Addr) (n c : Nat) (w : World) (h : BagAt w B P g m ms) (hfull : 16384 ≤ ms.length) :
    Calls Try.prog 12 #[.pointer (some ⟨g, 0, none⟩), .int .i64 f, .int .i64 t, .slice A n c] w fun e w' => e = .returned (.bool false) ∧ w = w' := by
  obtain ⟨L, vs, h1, h2, h3, h4, h5⟩ := h
  have HI := Lib.hid (is_any g m L w h1)
  have c0 := h1.c0
  obtain ⟨k, hk⟩ : ∃ k, ms.length = k := ⟨_, rfl⟩
  rw [hk] at hfull
  rcases h3.2 with ⟨rfl, h0⟩ | ⟨q, cap, cur, rfl, _⟩
  · omega
  · rw [hk] at c0
    have hfi : (16384 : Int) ≤ (k : Int) := by omega
    clear h1 h2 h3 h4 h5 hk hfull
    go_enter Try.func12, Try.ntmps12
    go_wp2_with fail
    refine HI.out.mono ?_
    rintro e w1 ⟨rfl, rfl⟩
    go_wp2_with fail
    go_ret
    exact ⟨rfl, rfl⟩

set_option maxRecDepth 20000 in
set_option maxHeartbeats 800000 in
theorem post_room (B : Nat) (P : Nat → Prop) (g m : Nat) (ms : List Msg) (f t : Int) (A : Option Addr) (n c : Nat) (l : List UInt8) (w : World) (h : BagAt w B P g m ms) (hroom : ms.length < 16384)
    (hf : InI64 f) (ht : InI64 t) (hn : l.length = n) (hl : n ≤ 140737488355328) (hB : Bytes w A l) (hP : ∀ b, w.heap.size ≤ b → P b) (hmg : ∃ es cl, w.heap[m]? = some (.map es cl)) (hBm : B ≤ w.heap.size) :
    Calls Try.prog 12 #[.pointer (some ⟨g, 0, none⟩), .int .i64 f, .int .i64 t, .slice A n c] w fun e w' => e = .returned (.bool true) ∧ Turned w B P g m (ms ++ [(f, t, l)]) w' := by
  obtain ⟨L, vs, h1, h2, h3, h4, h5⟩ := h
  have HI := Lib.hid (is_any g m L w h1)
  have c0 := h1.c0
  have HG := Lib.hid h1
  have H2 := Lib.hid h2
  have H3 := Lib.hid h3
  have H4 := Lib.hid h4
  have H5 := Lib.hid h5
  have HF := Lib.hid hf
  have HT := Lib.hid ht
  have HN := Lib.hid hn
  have HC := Lib.hid hB
  have HP := Lib.hid hP
  have HM := Lib.hid hmg
  clear hf ht hn hB hP hmg h5 h4
  obtain ⟨i1, hj, hy0, hy1, hy2⟩ := info_parts info55
  obtain ⟨AL, cL, rfl, hkc, hkm⟩ : ∃ AL cL, L = .slice AL ms.length cL ∧ ms.length ≤ cL ∧ cL ≤ maxLen := by
    rcases h3.2 with ⟨e, h0⟩ | ⟨q, cap, cur, e, _, _, a, b, _⟩
    · exact ⟨none, 0, by rw [e, h0], by omega, by omega⟩
    · exact ⟨_, cap, e, a, b⟩
  clear h3 h1 h2
  obtain ⟨k, hk⟩ : ∃ k, ms.length = k := ⟨_, rfl⟩
  rw [hk] at c0 hroom H3 hkc HG
  have HK := Lib.hid hk; clear hk
  have hri : decide ((16384 : Int) ≤ (k : Int)) = false := by rw [decide_eq_false_iff_not]; omega
  have HKM := Lib.hid hkm; clear hkm
  have HKC := Lib.hid hkc; clear hkc
  have HRM := Lib.hid hroom; clear hroom
  go_enter Try.func12, Try.ntmps12
  go_wp2_with fail
  refine HI.out.mono ?_
  rintro e w1 ⟨rfl, rfl⟩
  go_wp2_with fail
  have SC : Hid (w.drew.cell? ⟨g, 0, none⟩ = some (.slice AL k cL)) := c0
  refine wp_region_flowE [(0, 1), (1, 1), (2, 1), (3, 1), (4, 1), (5, 1), (6, 1), (7, 1), (8, 0), (9, 1), (10, 0), (11, 0), (12, 2), (13, 1)] 14 (fun u => u.cell? ⟨g, 0, none⟩ = some (.slice AL k cL)) (by kernel_rfl) (by kernel_rfl) (fun _ _ _ _ _ h => h) (SC.out) ?_
  iterate 8 (refine flowE_take (v := ?_) rfl (by rfl) ?_ ?_; rotate_left 1; (· intro u hu; have c0' := hu; clear hu; go_simp; try with_reducible rfl); simp only [Act.put, List.getElem_toArray, List.getElem_cons_succ, List.getElem_cons_zero, List.setIfInBounds_toArray, List.set_cons_zero, List.set_cons_succ])
  (refine flowE_turn rfl (by rfl) (fun K hK => ?_); simp only [List.getElem_toArray, List.getElem_cons_succ, List.getElem_cons_zero]; have HKK := Lib.hid hK; clear hK; go_simp)
  refine (clone_any A n c l _ HN.out hl (HC.out.below (Below.refl _ _).drew)).mono ?_
  rintro e w2 ⟨v2, rfl, ho2, hb2⟩
  have HB2 : Hid (Below w.heap.size w w2) := Below.trans ((Below.refl w.heap.size _).drew) hb2
  have ho2' : w2.ownsRow w.heap.size 5 1 v2 l.length (l.map bv) := ho2
  obtain ⟨A2, c2, rfl, hl2, hc2, hm2, hT2⟩ := bytesT_of_own (P := P) ho2' HP.out
  have HT2 := Lib.hid hT2; clear hT2
  have HC2 := Lib.hid hc2; clear hc2
  clear hb2 ho2 ho2' hl2 hm2
  have S2 : Hid (w2.cell? ⟨g, 0, none⟩ = some (.slice AL k cL)) := (HB2.out.cell (p := ⟨g, 0, none⟩) HG.out.lt).trans c0
  have HR2 : Hid (w2.ownsRow B 55 3 (.slice AL k cL) k (flat3 ms vs)) := own_below H3.out HB2.out
  have HG2 : Hid (Blk w2 g m (.slice AL k cL)) := (HB2.out.block g HG.out.lt).trans HG.out
  refine HKK.out _ _ ⟨fun u => u.cell? ⟨g, 0, none⟩ = some (.slice AL k cL), S2.out, fun u hu => hu, ?_⟩
  clear HKK K
  iterate 1 (refine flowE_take (v := ?_) rfl (by rfl) ?_ ?_; rotate_left 1; (· intro u hu; skip; clear hu; go_simp; try with_reducible rfl); simp only [Act.put, List.getElem_toArray, List.getElem_cons_succ, List.getElem_cons_zero, List.setIfInBounds_toArray, List.set_cons_zero, List.set_cons_succ])
  (refine flowE_turn rfl (by rfl) (fun K hK => ?_); simp only [List.getElem_toArray, List.getElem_cons_succ, List.getElem_cons_zero]; have HKK := Lib.hid hK; clear hK; go_simp)
  have H23 : Hid (Below w2.heap.size w2 (w2.alloc (.cells #[.int .i64 f, .int .i64 t, .slice A2 l.length c2] 55))) := (Below.refl _ _).alloc (Nat.le_refl _) _
  have HCN : Hid (∀ j u, [Value.int .i64 f, Value.int .i64 t, Value.slice A2 l.length c2][j]? = some u → (w2.alloc (.cells #[.int .i64 f, .int .i64 t, .slice A2 l.length c2] 55)).cell? ((⟨w2.heap.size, 0, none⟩ : Addr).add j) = some u) := cell_three_new w2 _ _ _ 55 _ rfl
  have S3 : Hid ((w2.alloc (.cells #[.int .i64 f, .int .i64 t, .slice A2 l.length c2] 55)).cell? ⟨g, 0, none⟩ = some (.slice AL k cL)) := (H23.out.cell (p := ⟨g, 0, none⟩) HG2.out.lt).trans S2.out
  refine HKK.out _ _ ⟨fun u => u.cell? ⟨g, 0, none⟩ = some (.slice AL k cL), S3.out, fun u hu => hu, ?_⟩
  clear HKK K
  generalize w2.alloc (.cells #[.int .i64 f, .int .i64 t, .slice A2 l.length c2] 55) = w3 at *
  have HR3 : Hid (w3.ownsRow B 55 3 (.slice AL k cL) k (flat3 ms vs)) := own_below HR2.out H23.out
  have HG3 : Hid (Blk w3 g m (.slice AL k cL)) := (H23.out.block g HG2.out.lt).trans HG2.out
  have HB3 : Hid (Below w.heap.size w w3) := HB2.out.trans (H23.out.mono HB2.out.size)
  refine flowE_turn rfl (by rfl) (fun K hK => ?_)
  simp only [List.getElem_toArray, List.getElem_cons_succ, List.getElem_cons_zero]
  have HKK := Lib.hid hK; clear hK
  refine wp_append_at _ _ 47 rfl B 55 i1 (.agg #[.int .i64 0, .int .i64 0, .slice none 0 0]) 3 40 Try.underlying47 hj hy0 hy1 hy2 rfl (by omega) _ k _ rfl HR3.out ⟨w2.heap.size, 0, none⟩ 1 1 [.int .i64 f, .int .i64 t, .slice A2 l.length c2] rfl rfl HCN.out (three_oneCell _ _ _ _ _) (by have := HRM.out; unfold maxLen; omega) (by have := HRM.out; omega) (by have := HB3.out.size; omega) ?_
  intro v4 w4 ho4 hg4 _
  have HR4 := Lib.hid ho4; clear ho4
  have HGR := Lib.hid hg4; clear hg4
  have hne3 : Hid ((Value.slice AL k cL).ownBlock ≠ some g) := by
    intro e
    obtain ⟨cc, fr, hc⟩ := own_row_kind HR3.out g e
    have := hc.symm.trans HG3.out
    injection this with this
    injection this with _ this _
    cases this
  have HG4 : Hid (Blk w4 g m (.slice AL k cL)) := (HGR.out.block g HG3.out.lt (fun e => hne3.out e.symm)).trans HG3.out
  have d0 := HG4.out.c0
  have df := HG4.out.fz 0
  refine HKK.out _ _ ⟨fun u => u.cell? ⟨g, 0, none⟩ = some (.slice AL k cL), d0, fun u hu => hu, ?_⟩
  clear HKK K HCN
  obtain ⟨A4, c4, rfl⟩ : ∃ A4 c4, v4 = .slice A4 (k + 1) c4 := by
    rcases HR4.out.2 with ⟨e, h0⟩ | ⟨q, cap, cur, e, _⟩
    · omega
    · exact ⟨_, cap, e⟩
  simp only [Act.put, List.setIfInBounds_toArray, List.set_cons_zero, List.set_cons_succ]
  iterate 1 (refine flowE_pure (v := ?_) rfl (by rfl) ?_ ?_; rotate_left 1; (· intro u hu; skip; clear hu; go_simp; try with_reducible rfl); simp only [Act.put, List.getElem_toArray, List.getElem_cons_succ, List.getElem_cons_zero, List.setIfInBounds_toArray, List.set_cons_zero, List.set_cons_succ])
  iterate 1 (refine flowE_take (v := ?_) rfl (by rfl) ?_ ?_; rotate_left 1; (· intro u hu; skip; clear hu; go_simp; try with_reducible rfl); simp only [Act.put, List.getElem_toArray, List.getElem_cons_succ, List.getElem_cons_zero, List.setIfInBounds_toArray, List.set_cons_zero, List.set_cons_succ])
  (refine flowE_end rfl (by rfl) (fun K hK => ?_); simp only [List.getElem_toArray, List.getElem_cons_succ, List.getElem_cons_zero]; have HKK := Lib.hid hK; clear hK; go_simp)
  have HTU : Hid (Turned w B P g m (ms ++ [(f, t, l)]) (w4.setCell ⟨g, 0, none⟩ (.slice A4 (k + 1) c4))) := by
    have hvl : ms.length = vs.length := H4.out.length
    have hrow3 : ∀ q, (Value.slice AL k cL).ownBlock = some q → ∃ cc fr, w3.heap[q]? = some (.cells cc 55 fr) := fun q hq => own_row_kind HR3.out q hq
    have hne4 : (Value.slice A4 (k + 1) c4).ownBlock ≠ some g := by
      intro e
      obtain ⟨cc, fr, hc⟩ := own_row_kind HR4.out g e
      have := hc.symm.trans HG4.out
      injection this with this
      injection this with _ this _
      cases this
    -- blocks of bytes of w3 are kept
    have keep3 : ∀ (b : Nat) (cs : Array Value) (fr : Nat × Nat), w3.heap[b]? = some (Obj.cells cs 5 fr) → (w4.setCell ⟨g, 0, none⟩ (.slice A4 (k + 1) c4)).heap[b]? = w3.heap[b]? := by
      intro b cs fr hb
      have hbg : b ≠ g := fun e => by
        subst e
        have := hb.symm.trans HG3.out
        injection this with this
        injection this with _ this _
        cases this
      rw [setCell_other _ hbg]
      refine HGR.out.block b (Array.getElem?_eq_some_iff.1 hb).1 (fun e => ?_)
      obtain ⟨cc, fr', hc⟩ := hrow3 b e.symm
      have := hc.symm.trans hb
      injection this with this
      injection this with _ this _
      cases this
    refine ⟨⟨.slice A4 (k + 1) c4, vs ++ [.slice A2 l.length c2], HG4.out.set _, H2.out, ?_, ?_, ?_⟩, ?_, ?_, ?_⟩
    · rw [flat3_append _ _ _ _ hvl, List.length_append, HK.out]
      exact ownsRow_setCell_other HR4.out hne4 _
    · refine Bods.append (H4.out.keep fun b hp cs fr hb => ⟨?_, hp⟩) ⟨⟨A2, c2, rfl, HC2.out, by have := HN.out; simp only; omega, HT2.out.keep fun b hp cs fr hb => ⟨?_, hp⟩⟩, trivial⟩
      · have e3 : w3.heap[b]? = w.heap[b]? := HB3.out.block b (Array.getElem?_eq_some_iff.1 hb).1
        rw [keep3 b cs fr (e3.trans hb), e3]
      · have e3 : w3.heap[b]? = w2.heap[b]? := H23.out.block b (Array.getElem?_eq_some_iff.1 hb).1
        rw [keep3 b cs fr (e3.trans hb), e3]
    · intro x hx
      rcases List.mem_append.1 hx with hx | hx
      · exact H5.out x hx
      · have : x = (f, t, l) := by simpa using hx
        subst this
        exact ⟨HF.out, HT.out⟩
    · exact ((HB3.out.mono hBm).grown HGR.out (by have := HB3.out.size; omega) (fun q hq => (HR3.out.lt q hq).1)).setCell (p := ⟨g, 0, none⟩) H2.out _
    · refine ((Beside.of_below HB3.out).trans (Beside.grown HGR.out hrow3)).trans ⟨by simp [World.setCell], fun q hq hqm hfree => setCell_other _ (fun e => ?_)⟩
      subst e
      exact (hfree _ _).1 HG4.out
    · obtain ⟨es, cl, hm⟩ := HM.out
      have hmlt : m < w.heap.size := (Array.getElem?_eq_some_iff.1 hm).1
      have e3 : w3.heap[m]? = w.heap[m]? := HB3.out.block m hmlt
      have hmg : m ≠ g := fun e => by
        subst e
        have := hm.symm.trans HG.out
        cases this
      rw [setCell_other _ hmg, HGR.out.block m (by have := HB3.out.size; omega) (fun e => ?_), e3]
      obtain ⟨cc, fr', hc⟩ := hrow3 m e.symm
      have := hc.symm.trans (e3.trans hm)
      cases this
  refine HKK.out _ _ ?_
  clear HKK K
  go_wp2_with fail
  go_ret
  exact ⟨rfl, HTU.out⟩
end Go.Proofs.Ytjbcmepnlnfkjaa
