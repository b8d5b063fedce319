/-
  A LAW ON REGIONS THAT DRAW THEIR ORDER AND END IN ONE WRITE: as the law of BgFlow, but what the last operation leaves need not meet S (all that was taken first stands ahead of it). No condition of its own. (It stands on the library's Derived/OrdersHeld.lean and follows that text's laws.)
-/
import Derived.Test.YtjbcmepnlnfkjaaBgFlow
namespace Go.Proofs.Ytjbcmepnlnfkjaa
open Go

section
variable {P : Program} {md : Region.Mode} {ops : Array Oper} {Q : Exit → Act → World → Prop} {S : World → Prop} {c : Nat}

def wpAnyC (P : Program) (md : Region.Mode) (ops : Array Oper) (Q : Exit → Act → World → Prop) (S : World → Prop) (c : Nat) : Nat → Array Bool → Act → World → Prop
  | 0, listed, a, w => Region.ready md ops listed = [] ∧ Q .normal a w
  | fuel + 1, listed, a, w =>
    (Region.ready md ops listed = [] → Q .normal a w) ∧
    ∀ i ∈ Region.ready md ops listed, wpOp P ops Q i (fun a' w' => ((listed.setIfInBounds i true).getD c true = false → S w') ∧ wpAnyC P md ops Q S c fuel (listed.setIfInBounds i true) a' w') a w

theorem wpAny_of_C : ∀ (fuel : Nat) (listed : Array Bool) (a : Act) (w : World), wpAnyC P md ops Q S c fuel listed a w → wpAny P md ops Q fuel listed a w
  | 0, _, _, _, h => h
  | fuel + 1, _, _, _, h => ⟨h.1, fun i hi => wpOp_mono (fun a' w' h' => wpAny_of_C fuel _ a' w' h'.2) (h.2 i hi)⟩

theorem wpAnyC_first {i : Nat} {oi oc : Oper} {v : Value} (hi : ops[i]? = some oi) (hoc : ops[c]? = some oc) (hic : i ≠ c) (hdep : ∃ e ∈ oc.after, Region.binds md e = true ∧ e.on = i)
    (hsel : ∀ (j : Nat) (o : Oper) cs b, ops[j]? = some o → o.op ≠ .select cs b)
    (hQ : ∀ c a w, Q (.panic c) (a.put oi.dst v) w → Q (.panic c) a w) :
    ∀ (fuel : Nat) (listed : Array Bool) (a : Act) (w : World),
      (∀ j oj, ops[j]? = some oj → j ≠ i → listed.getD j true = false → (∀ e ∈ oj.after, Region.binds md e = true → e.on ≠ i) → oi.apart ops oj = true) →
      i ∈ Region.ready md ops listed → YieldsIf P ops S oi v a → S w → listed.getD c true = false →
      wpAnyC P md ops Q S c fuel (listed.setIfInBounds i true) (a.put oi.dst v) w → wpAnyC P md ops Q S c (fuel + 1) listed a w := by
  intro fuel
  induction fuel with
  | zero =>
    intro listed a w _ hr hy hS hcu H
    refine ⟨fun h => (by rw [h] at hr; cases hr), fun j hj => ?_⟩
    by_cases hji : j = i
    · subst hji; exact hy.wpOp hi hS ⟨fun _ => hS, H⟩
    · have := ready_mono hj hji
      rw [H.1] at this
      cases this
  | succ fuel ih =>
    intro listed a w hfree hr hy hS hcu H
    refine ⟨fun h => (by rw [h] at hr; cases hr), fun j hj => ?_⟩
    by_cases hji : j = i
    · subst hji; exact hy.wpOp hi hS ⟨fun _ => hS, H⟩
    · have h1 := H.2 j (ready_mono hj hji)
      obtain ⟨hjun, oj, hoj, hall⟩ := mem_ready.1 hj
      have hnot : ∀ e ∈ oj.after, Region.binds md e = true → e.on ≠ i := fun e he hb heq => by
        have h1 := hall e he hb
        have h0 := (mem_ready.1 hr).1
        rw [heq] at h1
        rcases Nat.lt_or_ge i listed.size with h' | h'
        · simp [h'] at h0 h1; rw [h0] at h1; cases h1
        · simp [Array.getElem?_eq_none h'] at h1
      have hjc : j ≠ c := fun e => by
        subst e
        rw [hoc] at hoj
        injection hoj with hoj
        subst hoj
        obtain ⟨e, he, hb, heq⟩ := hdep
        exact hnot e he hb heq
      have h2 := wpOp_putIf hoj (hfree j oj hoj hji hjun hnot) (fun cs b => hsel i oi cs b hi) (fun cs b => hsel j oj cs b hoj) hQ hy h1
      have hfree' : ∀ k ok, ops[k]? = some ok → k ≠ i → (listed.setIfInBounds j true).getD k true = false →
          (∀ e ∈ ok.after, Region.binds md e = true → e.on ≠ i) → oi.apart ops ok = true := fun k ok hk hki hun hno => by
        refine hfree k ok hk hki ?_ hno
        by_cases hjk : j = k
        · subst hjk; exact hjun
        · rw [getD_set_ne true hjk] at hun; exact hun
      have e1 : ((listed.setIfInBounds i true).setIfInBounds j true).getD c true = (listed.setIfInBounds j true).getD c true := by
        rw [Array.setIfInBounds_comm _ _ (Ne.symm hji), getD_set_ne true hic]
      have e2 : (listed.setIfInBounds j true).getD c true = false := by rw [getD_set_ne true hjc]; exact hcu
      refine wpOp_mono (fun a' w' h3 => ⟨fun hc => h3.2.1 (by rw [e1]; exact hc), ih (listed.setIfInBounds j true) a' w' hfree' (ready_mono hr (Ne.symm hji)) h3.1 (h3.2.1 (by rw [e1]; exact e2)) e2 ?_⟩) h2
      rw [Array.setIfInBounds_comm _ _ hji]
      exact h3.2.2

theorem wpAnyC_pure {i : Nat} {oi : Oper} {v : Value} (hi : ops[i]? = some oi) (hic : i ≠ c)
    (hsel : ∀ (j : Nat) (o : Oper) cs b, ops[j]? = some o → o.op ≠ .select cs b)
    (hQ : ∀ c a w, Q (.panic c) (a.put oi.dst v) w → Q (.panic c) a w) :
    ∀ (fuel : Nat) (listed : Array Bool) (a : Act) (w : World),
      (∀ j oj, ops[j]? = some oj → j ≠ i → listed.getD j true = false → (∀ e ∈ oj.after, Region.binds md e = true → e.on ≠ i) → oi.apart ops oj = true) →
      i ∈ Region.ready md ops listed → YieldsIf P ops (fun _ => True) oi v a → (listed.getD c true = false → S w) →
      wpAnyC P md ops Q S c fuel (listed.setIfInBounds i true) (a.put oi.dst v) w → wpAnyC P md ops Q S c (fuel + 1) listed a w := by
  intro fuel
  induction fuel with
  | zero =>
    intro listed a w _ hr hy hS H
    refine ⟨fun h => (by rw [h] at hr; cases hr), fun j hj => ?_⟩
    by_cases hji : j = i
    · subst hji; exact hy.wpOp hi trivial ⟨fun hc => hS (by rwa [getD_set_ne true hic] at hc), H⟩
    · have := ready_mono hj hji
      rw [H.1] at this
      cases this
  | succ fuel ih =>
    intro listed a w hfree hr hy hS H
    refine ⟨fun h => (by rw [h] at hr; cases hr), fun j hj => ?_⟩
    by_cases hji : j = i
    · subst hji; exact hy.wpOp hi trivial ⟨fun hc => hS (by rwa [getD_set_ne true hic] at hc), H⟩
    · have h1 := H.2 j (ready_mono hj hji)
      obtain ⟨hjun, oj, hoj, hall⟩ := mem_ready.1 hj
      have hnot : ∀ e ∈ oj.after, Region.binds md e = true → e.on ≠ i := fun e he hb heq => by
        have h1 := hall e he hb
        have h0 := (mem_ready.1 hr).1
        rw [heq] at h1
        rcases Nat.lt_or_ge i listed.size with h' | h'
        · simp [h'] at h0 h1; rw [h0] at h1; cases h1
        · simp [Array.getElem?_eq_none h'] at h1
      have h2 := wpOp_putIf hoj (hfree j oj hoj hji hjun hnot) (fun cs b => hsel i oi cs b hi) (fun cs b => hsel j oj cs b hoj) hQ hy h1
      have hfree' : ∀ k ok, ops[k]? = some ok → k ≠ i → (listed.setIfInBounds j true).getD k true = false →
          (∀ e ∈ ok.after, Region.binds md e = true → e.on ≠ i) → oi.apart ops ok = true := fun k ok hk hki hun hno => by
        refine hfree k ok hk hki ?_ hno
        by_cases hjk : j = k
        · subst hjk; exact hjun
        · rw [getD_set_ne true hjk] at hun; exact hun
      have e1 : ((listed.setIfInBounds i true).setIfInBounds j true).getD c true = (listed.setIfInBounds j true).getD c true := by
        rw [Array.setIfInBounds_comm _ _ (Ne.symm hji), getD_set_ne true hic]
      refine wpOp_mono (fun a' w' h3 => ⟨fun hc => h3.2.1 (by rw [e1]; exact hc), ih (listed.setIfInBounds j true) a' w' hfree' (ready_mono hr (Ne.symm hji)) h3.1 (fun hc => h3.2.1 (by rw [e1]; exact hc)) ?_⟩) h2
      rw [Array.setIfInBounds_comm _ _ hji]
      exact h3.2.2

/-- marks: 0 the one that may come up; 1 taken first, under S, and the last waits for it; 2 taken first, whatever the world -/
def flowE (P : Program) (ops : Array Oper) (Q : Exit → Act → World → Prop) (c : Nat) : List (Nat × Nat) → (World → Prop) → Act → World → Prop
  | [], _, a, w => ∃ o, ops[c]? = some o ∧ ∀ K : Act → World → Prop, (∀ a' w', Q .normal a' w' → K a' w') → if Region.wanted o (yielded ops a.tmps) = true then o.wp P a w K Q else K (a.put o.dst undef) w
  | (i, 1) :: r, S, a, w => ∃ o v, ops[i]? = some o ∧ YieldsIf P ops S o v a ∧ flowE P ops Q c r S (a.put o.dst v) w
  | (i, 2) :: r, S, a, w => ∃ o v, ops[i]? = some o ∧ YieldsIf P ops (fun _ => True) o v a ∧ flowE P ops Q c r S (a.put o.dst v) w
  | (i, _) :: r, S, a, w => ∃ o, ops[i]? = some o ∧ ∀ K : Act → World → Prop, (∀ a' w', (∃ S' : World → Prop, S' w' ∧ (∀ u, S' u → S u) ∧ flowE P ops Q c r S' a' w') → K a' w') →
      if Region.wanted o (yielded ops a.tmps) = true then o.wp P a w K Q else K (a.put o.dst undef) w

def flowEB (md : Region.Mode) (ops : Array Oper) (c : Nat) : List (Nat × Nat) → Array Bool → Bool
  | [], listed => decide (Region.ready md ops listed = [c]) && (Region.ready md ops (listed.setIfInBounds c true)).isEmpty
  | (i, 1) :: r, listed => (Region.ready md ops listed).contains i && Region.free md ops listed i && decide (i ≠ c) && (match ops[c]? with | some oc => oc.after.any fun e => Region.binds md e && decide (e.on = i) | none => false) && decide (listed.getD c true = false) && flowEB md ops c r (listed.setIfInBounds i true)
  | (i, 2) :: r, listed => (Region.ready md ops listed).contains i && Region.free md ops listed i && decide (i ≠ c) && flowEB md ops c r (listed.setIfInBounds i true)
  | (i, _) :: r, listed => decide (Region.ready md ops listed = [i]) && flowEB md ops c r (listed.setIfInBounds i true)

theorem heldC_narrow {S S' : World → Prop} (h : ∀ w, S' w → S w) : ∀ (fuel : Nat) (listed : Array Bool) (a : Act) (w : World), wpAnyC P md ops Q S' c fuel listed a w → wpAnyC P md ops Q S c fuel listed a w
  | 0, _, _, _, hh => hh
  | fuel + 1, _, _, _, hh => ⟨hh.1, fun i hi => wpOp_mono (fun a' w' h' => ⟨fun hc => h _ (h'.1 hc), heldC_narrow h fuel _ a' w' h'.2⟩) (hh.2 i hi)⟩

theorem getD_set_same (l : Array Bool) (c : Nat) : (l.setIfInBounds c true).getD c true = true := by
  simp only [Array.getD_eq_getD_getElem?, Array.getElem?_setIfInBounds]
  split <;> (try split) <;> simp_all

theorem held_turn {i : Nat} {r : List (Nat × Nat)} {S : World → Prop} {listed : Array Bool} {a : Act} {w : World}
    (ih : ∀ (S : World → Prop) (listed : Array Bool) (a : Act) (w : World), (listed.getD c true = false → S w) → flowEB md ops c r listed = true → flowE P ops Q c r S a w → wpAnyC P md ops Q S c (r.length + 1) listed a w)
    (hB : (decide (Region.ready md ops listed = [i]) && flowEB md ops c r (listed.setIfInBounds i true)) = true)
    (h : ∃ o, ops[i]? = some o ∧ ∀ K : Act → World → Prop, (∀ a' w', (∃ S' : World → Prop, S' w' ∧ (∀ u, S' u → S u) ∧ flowE P ops Q c r S' a' w') → K a' w') → if Region.wanted o (yielded ops a.tmps) = true then o.wp P a w K Q else K (a.put o.dst undef) w) :
    wpAnyC P md ops Q S c (r.length + 1 + 1) listed a w := by
  simp only [Bool.and_eq_true, decide_eq_true_eq] at hB
  obtain ⟨hr, hB'⟩ := hB
  obtain ⟨o, ho, h'⟩ := h
  refine ⟨fun h0 => (by rw [hr] at h0; cases h0), fun j hj => ?_⟩
  have hji : j = i := by rw [hr] at hj; simpa using hj
  subst hji
  refine wpOp_step ho fun K' hK => ?_
  exact h' K' fun a' w' ⟨S', h1, h2, h3⟩ => hK a' w' ⟨fun _ => h2 _ h1, heldC_narrow h2 _ _ _ _ (ih S' _ _ _ (fun _ => h1) hB' h3)⟩

theorem held_of_flowE (hs : Region.noSelect ops = true) (hQ : ∀ c (a : Act) d v w, Q (.panic c) (a.put (some d) v) w → Q (.panic c) a w) :
    ∀ (l : List (Nat × Nat)) (S : World → Prop) (listed : Array Bool) (a : Act) (w : World), (listed.getD c true = false → S w) → flowEB md ops c l listed = true → flowE P ops Q c l S a w →
      wpAnyC P md ops Q S c (l.length + 1) listed a w := by
  intro l
  induction l with
  | nil =>
    intro S listed a w _ hB h
    simp only [flowEB, Bool.and_eq_true, decide_eq_true_eq] at hB
    obtain ⟨o, ho, h'⟩ := h
    refine ⟨fun h0 => (by rw [hB.1] at h0; cases h0), fun j hj => ?_⟩
    have hjc : j = c := by rw [hB.1] at hj; simpa using hj
    subst hjc
    refine wpOp_step ho fun K' hK => ?_
    exact h' K' fun a' w' hq => hK a' w' ⟨fun hc => (by rw [getD_set_same] at hc; cases hc), by simpa using hB.2, hq⟩
  | cons x r ih =>
    obtain ⟨i, m⟩ := x
    intro S listed a w hS hB h
    match m with
    | 0 => exact held_turn ih hB h
    | 1 =>
      simp only [flowEB, Bool.and_eq_true, decide_eq_true_eq] at hB
      obtain ⟨⟨⟨⟨⟨hr, hf⟩, hic⟩, hdep⟩, hcu⟩, hB'⟩ := hB
      obtain ⟨o, v, ho, hy, h'⟩ := h
      cases hoc : ops[c]? with
      | none => simp [hoc] at hdep
      | some oc =>
        simp only [hoc, Array.any_eq_true] at hdep
        obtain ⟨k, hk, he⟩ := hdep
        simp only [Bool.and_eq_true, decide_eq_true_eq] at he
        refine wpAnyC_first ho hoc hic ⟨_, Array.getElem_mem hk, he.1, he.2⟩ (Region.noSelect_spec hs) (fun c a w => ?_) _ listed a w (Region.free_spec ho hf) (by simpa using hr) hy (hS hcu) hcu (ih S _ _ w (fun _ => hS hcu) hB' h')
        cases o.dst with
        | none => exact id
        | some d => exact hQ c a d v w
    | 2 =>
      simp only [flowEB, Bool.and_eq_true, decide_eq_true_eq] at hB
      obtain ⟨⟨⟨hr, hf⟩, hic⟩, hB'⟩ := hB
      obtain ⟨o, v, ho, hy, h'⟩ := h
      refine wpAnyC_pure ho hic (Region.noSelect_spec hs) (fun c a w => ?_) _ listed a w (Region.free_spec ho hf) (by simpa using hr) hy hS (ih S _ _ w (fun hc => hS (by rwa [getD_set_ne true hic] at hc)) hB' h')
      cases o.dst with
      | none => exact id
      | some d => exact hQ c a d v w
    | _ + 3 => exact held_turn ih hB h

theorem wp_region_flowE {id : Nat} {a : Act} {w : World} (l : List (Nat × Nat)) (c : Nat) (S : World → Prop) (hm : P.follows .mixedOrders = true)
    (hB : (Region.noSelect ops && decide (l.length + 1 = ops.size) && flowEB .any ops c l (Array.replicate ops.size false)) = true)
    (hQ : ∀ c (a : Act) d v w, Q (.panic c) (a.put (some d) v) w → Q (.panic c) a w) (hS : S w.drew) (h : flowE P ops Q c l S a w.drew) : (Code.region id ops true).wp P Q a w := by
  simp only [Bool.and_eq_true, decide_eq_true_eq] at hB
  obtain ⟨⟨hs, hl⟩, hB'⟩ := hB
  refine wp_region_any hm (wpAny_of_C (S := S) (c := c) _ _ _ _ ?_)
  rw [← hl]
  exact held_of_flowE hs hQ l S _ a _ (fun _ => hS) (hl ▸ hB') h

theorem flowE_take {S : World → Prop} {a : Act} {w : World} {i : Nat} {r : List (Nat × Nat)} {o : Oper} {v : Value} (ho : ops[i]? = some o)
    (hw : Region.wanted o (yielded ops a.tmps) = true) (hv : ∀ u, S u → (execOp a.eval o).run P u = .ok (.value v) u) (h : flowE P ops Q c r S (a.put o.dst v) w) : flowE P ops Q c ((i, 1) :: r) S a w :=
  ⟨o, v, ho, .inl ⟨hw, hv⟩, h⟩
theorem flowE_pure {S : World → Prop} {a : Act} {w : World} {i : Nat} {r : List (Nat × Nat)} {o : Oper} {v : Value} (ho : ops[i]? = some o)
    (hw : Region.wanted o (yielded ops a.tmps) = true) (hv : ∀ u, True → (execOp a.eval o).run P u = .ok (.value v) u) (h : flowE P ops Q c r S (a.put o.dst v) w) : flowE P ops Q c ((i, 2) :: r) S a w :=
  ⟨o, v, ho, .inl ⟨hw, hv⟩, h⟩
theorem flowE_turn {S : World → Prop} {a : Act} {w : World} {i : Nat} {r : List (Nat × Nat)} {o : Oper} (ho : ops[i]? = some o)
    (hw : Region.wanted o (yielded ops a.tmps) = true) (h : ∀ K : Act → World → Prop, (∀ a' w', (∃ S' : World → Prop, S' w' ∧ (∀ u, S' u → S u) ∧ flowE P ops Q c r S' a' w') → K a' w') → o.wp P a w K Q) : flowE P ops Q c ((i, 0) :: r) S a w :=
  ⟨o, ho, fun K hK => by rw [if_pos hw]; exact h K hK⟩
theorem flowE_end {S : World → Prop} {a : Act} {w : World} {o : Oper} (ho : ops[c]? = some o)
    (hw : Region.wanted o (yielded ops a.tmps) = true) (h : ∀ K : Act → World → Prop, (∀ a' w', Q .normal a' w' → K a' w') → o.wp P a w K Q) : flowE P ops Q c [] S a w :=
  ⟨o, ho, fun K hK => by rw [if_pos hw]; exact h K hK⟩
end
end Go.Proofs.Ytjbcmepnlnfkjaa
