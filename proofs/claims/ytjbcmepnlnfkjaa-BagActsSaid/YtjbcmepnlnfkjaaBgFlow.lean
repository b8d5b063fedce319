/-
  A LAW ON REGIONS THAT DRAW THEIR ORDER, over any program: the prover names an order of the operations; one that yields the same value in every world of a class S and changes nothing is taken in its turn (mark 'true'); any other (mark 'false') must be the only one that may come up there, and may change the world: behind it a narrower class may be named. No condition of its own. (It stands on the library's Derived/OrdersHeld.lean.)
-/
import Derived.OrdersHeld
import Derived.WalkKit
namespace Go.Proofs.Ytjbcmepnlnfkjaa
open Go

section
variable {P : Program} {md : Region.Mode} {ops : Array Oper} {Q : Exit → Act → World → Prop}

def flow (P : Program) (ops : Array Oper) (Q : Exit → Act → World → Prop) : List (Nat × Bool) → (World → Prop) → Act → World → Prop
  | [], _, a, w => Q .normal a w
  | (i, true) :: r, S, a, w => ∃ o v, ops[i]? = some o ∧ YieldsIf P ops S o v a ∧ flow P ops Q r S (a.put o.dst v) w
  | (i, false) :: r, S, a, w => ∃ o, ops[i]? = some o ∧ ∀ K : Act → World → Prop, (∀ a' w', (∃ S' : World → Prop, S' w' ∧ (∀ u, S' u → S u) ∧ flow P ops Q r S' a' w') → K a' w') →
      if Region.wanted o (yielded ops a.tmps) = true then o.wp P a w K Q else K (a.put o.dst undef) w

def flowB (md : Region.Mode) (ops : Array Oper) : List (Nat × Bool) → Array Bool → Bool
  | [], listed => (Region.ready md ops listed).isEmpty
  | (i, true) :: r, listed => (Region.ready md ops listed).contains i && Region.free md ops listed i && flowB md ops r (listed.setIfInBounds i true)
  | (i, false) :: r, listed => decide (Region.ready md ops listed = [i]) && flowB md ops r (listed.setIfInBounds i true)

theorem held_narrow {S S' : World → Prop} (h : ∀ w, S' w → S w) : ∀ (fuel : Nat) (listed : Array Bool) (a : Act) (w : World), wpAnyH P md ops Q S' fuel listed a w → wpAnyH P md ops Q S fuel listed a w
  | 0, _, _, _, hh => hh
  | fuel + 1, _, _, _, hh => ⟨hh.1, fun i hi => wpOp_mono (fun a' w' h' => ⟨h _ h'.1, held_narrow h fuel _ a' w' h'.2⟩) (hh.2 i hi)⟩

theorem held_of_flow (hs : Region.noSelect ops = true) (hQ : ∀ c (a : Act) d v w, Q (.panic c) (a.put (some d) v) w → Q (.panic c) a w) :
    ∀ (l : List (Nat × Bool)) (S : World → Prop) (listed : Array Bool) (a : Act) (w : World), S w → flowB md ops l listed = true → flow P ops Q l S a w →
      wpAnyH P md ops Q S l.length listed a w := by
  intro l
  induction l with
  | nil =>
    intro S listed a w _ hB h
    exact ⟨by simpa [flowB] using hB, h⟩
  | cons x r ih =>
    obtain ⟨i, m⟩ := x
    intro S listed a w hS hB h
    cases m with
    | true =>
      simp only [flowB, Bool.and_eq_true] at hB
      obtain ⟨⟨hr, hf⟩, hB'⟩ := hB
      obtain ⟨o, v, ho, hy, h'⟩ := h
      refine wpAnyH_take ho hs hf hr (fun c a w => ?_) hy hS (ih S _ _ w hS hB' h')
      cases o.dst with
      | none => exact id
      | some d => exact hQ c a d v w
    | false =>
      simp only [flowB, Bool.and_eq_true, decide_eq_true_eq] at hB
      obtain ⟨hr, hB'⟩ := hB
      obtain ⟨o, ho, h'⟩ := h
      refine wpAnyH_all hr (by simp) fun j hj => ?_
      have hji : j = i := by simpa using hj
      subst hji
      refine wpOp_step ho fun K' hK => ?_
      exact h' K' fun a' w' ⟨S', h1, h2, h3⟩ => hK a' w' ⟨h2 _ h1, held_narrow h2 _ _ _ _ (ih S' _ _ _ h1 hB' h3)⟩

theorem wp_region_flow {id : Nat} {a : Act} {w : World} (l : List (Nat × Bool)) (S : World → Prop) (hm : P.follows .mixedOrders = true)
    (hB : (Region.noSelect ops && decide (l.length = ops.size) && flowB .any ops l (Array.replicate ops.size false)) = true)
    (hQ : ∀ c (a : Act) d v w, Q (.panic c) (a.put (some d) v) w → Q (.panic c) a w) (hS : S w.drew) (h : flow P ops Q l S a w.drew) : (Code.region id ops true).wp P Q a w := by
  simp only [Bool.and_eq_true, decide_eq_true_eq] at hB
  obtain ⟨⟨hs, hl⟩, hB'⟩ := hB
  refine wp_region_held (S := S) hm ?_
  rw [← hl]
  exact held_of_flow hs hQ l S _ a _ hS (hl ▸ hB') h

theorem flow_nil {S : World → Prop} {a : Act} {w : World} (h : Q .normal a w) : flow P ops Q [] S a w := h
theorem flow_take {S : World → Prop} {a : Act} {w : World} {i : Nat} {r : List (Nat × Bool)} {o : Oper} {v : Value} (ho : ops[i]? = some o)
    (hw : Region.wanted o (yielded ops a.tmps) = true) (hv : ∀ u, S u → (execOp a.eval o).run P u = .ok (.value v) u) (h : flow P ops Q r S (a.put o.dst v) w) : flow P ops Q ((i, true) :: r) S a w :=
  ⟨o, v, ho, .inl ⟨hw, hv⟩, h⟩
theorem flow_skip {S : World → Prop} {a : Act} {w : World} {i : Nat} {r : List (Nat × Bool)} {o : Oper} (ho : ops[i]? = some o)
    (hw : Region.wanted o (yielded ops a.tmps) = false) (h : flow P ops Q r S (a.put o.dst undef) w) : flow P ops Q ((i, true) :: r) S a w :=
  ⟨o, undef, ho, .inr ⟨hw, rfl⟩, h⟩
theorem flow_turn {S : World → Prop} {a : Act} {w : World} {i : Nat} {r : List (Nat × Bool)} {o : Oper} (ho : ops[i]? = some o)
    (hw : Region.wanted o (yielded ops a.tmps) = true) (h : ∀ K : Act → World → Prop, (∀ a' w', (∃ S' : World → Prop, S' w' ∧ (∀ u, S' u → S u) ∧ flow P ops Q r S' a' w') → K a' w') → o.wp P a w K Q) : flow P ops Q ((i, false) :: r) S a w :=
  ⟨o, ho, fun K hK => by rw [if_pos hw]; exact h K hK⟩
end
end Go.Proofs.Ytjbcmepnlnfkjaa
