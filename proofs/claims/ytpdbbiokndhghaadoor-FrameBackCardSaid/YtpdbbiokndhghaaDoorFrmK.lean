/-
  WORDS: slices that read as bytes, in a row (Sls); a row of items (flat). CONTRACT of frame.All.
-/
import Derived.Test.YtpdbbiokndhghaaDoorFrmJ
import Derived.Test.YtpdbbiokndhghaaDoorFrmQ
import Derived.Maps.AppendAt
import Derived.Lib.OwnKind
namespace Go.Proofs.YtpdbbiokndhghaaDoor
open Go Go.RowKit Go.Proofs

theorem Bytes.keepB {w w' : World} {A : Option Addr} {l : List UInt8} (h : Bytes w A l) (hs : w.heap.size ≤ w'.heap.size) (hk : 0 < l.length → ∀ a, A = some a → a.block < w.heap.size → w'.heap[a.block]? = w.heap[a.block]?) : Bytes w' A l := fun hl => by
  obtain ⟨b, off, rfl, hb, hc⟩ := h hl
  refine ⟨b, off, rfl, by omega, fun j hj => ?_⟩
  rw [← hc j hj]
  exact World.cell?_of_block (w := w) (hk hl ⟨b, off, none⟩ rfl hb)

/-- slices that read as bytes, each in a block of P -/
def Sls (w : World) (P : Nat → Prop) : List Value → List (List UInt8) → Prop
  | [], [] => True
  | v :: vs, d :: ds => (∃ A c, v = .slice A d.length c ∧ d.length ≤ c ∧ Bytes w A d ∧ (0 < d.length → ∀ a, A = some a → P a.block)) ∧ Sls w P vs ds
  | [], _ :: _ => False
  | _ :: _, [] => False

section
variable {w w' : World} {P P' : Nat → Prop}
theorem Sls.length : ∀ {vs : List Value} {ds : List (List UInt8)}, Sls w P vs ds → vs.length = ds.length
  | [], [], _ => rfl
  | _ :: _, _ :: _, h => by simp [Sls.length h.2]
  | [], _ :: _, h => h.elim
  | _ :: _, [], h => h.elim
theorem Sls.at_ : ∀ {vs : List Value} {ds : List (List UInt8)}, Sls w P vs ds → ∀ (i : Nat) (hi : i < ds.length), ∃ A c, vs[i]? = some (.slice A ds[i].length c) ∧ ds[i].length ≤ c ∧ Bytes w A ds[i]
  | [], [], _, i, hi => absurd hi (by simp)
  | _ :: _, _ :: _, h, 0, _ => by
    obtain ⟨A, c, h1, h2, h3, _⟩ := h.1
    exact ⟨A, c, by simp [h1], h2, h3⟩
  | _ :: _, _ :: _, h, i + 1, hi => by
    obtain ⟨A, c, h1, h2, h3⟩ := Sls.at_ h.2 i (by simpa using hi)
    exact ⟨A, c, by simpa using h1, h2, h3⟩
  | [], _ :: _, h, _, _ => h.elim
  | _ :: _, [], h, _, _ => h.elim
theorem Sls.snoc : ∀ {vs : List Value} {ds : List (List UInt8)}, Sls w P vs ds → ∀ {A : Option Addr} {c : Nat} {d : List UInt8}, d.length ≤ c → Bytes w A d → (0 < d.length → ∀ a, A = some a → P a.block) → Sls w P (vs ++ [.slice A d.length c]) (ds ++ [d])
  | [], [], _, A, c, _, hc, hB, hP => ⟨⟨A, c, rfl, hc, hB, hP⟩, trivial⟩
  | _ :: _, _ :: _, h, _, _, _, hc, hB, hP => ⟨h.1, Sls.snoc h.2 hc hB hP⟩
  | [], _ :: _, h, _, _, _, _, _, _ => h.elim
  | _ :: _, [], h, _, _, _, _, _, _ => h.elim
theorem Sls.keep (hs : w.heap.size ≤ w'.heap.size) (hk : ∀ b, P b → b < w.heap.size → w'.heap[b]? = w.heap[b]?) (hP : ∀ b, P b → b < w.heap.size → P' b) : ∀ {vs : List Value} {ds : List (List UInt8)}, Sls w P vs ds → Sls w' P' vs ds
  | [], [], _ => trivial
  | _ :: _, _ :: _, h => by
    obtain ⟨A, c, h1, h2, h3, h4⟩ := h.1
    refine ⟨⟨A, c, h1, h2, h3.keepB hs (fun hl a ha hb => hk _ (h4 hl a ha) hb), fun hl a ha => hP _ (h4 hl a ha) ?_⟩, Sls.keep hs hk hP h.2⟩
    obtain ⟨b, off, e, hb, _⟩ := h3 hl
    rw [e] at ha
    injection ha with ha
    subst ha
    exact hb
  | [], _ :: _, h => h.elim
  | _ :: _, [], h => h.elim
theorem Sls.below {vs : List Value} {ds : List (List UInt8)} (h : Sls w P vs ds) (hb : Below w.heap.size w w') : Sls w' P vs ds := h.keep hb.size (fun b _ hlt => hb.block b hlt) fun _ hp _ => hp
theorem Sls.take : ∀ {vs : List Value} {ds : List (List UInt8)}, Sls w P vs ds → ∀ k, Sls w P (vs.take k) (ds.take k)
  | [], [], _, k => by cases k <;> trivial
  | _ :: _, _ :: _, h, 0 => trivial
  | _ :: _, _ :: _, h, k + 1 => ⟨h.1, Sls.take h.2 k⟩
  | [], _ :: _, h, _ => h.elim
  | _ :: _, [], h, _ => h.elim
end

/-- items' cells -/
def flat : List UInt8 → List Value → List Value
  | k :: ks, v :: vs => bv k :: v :: flat ks vs
  | [], _ => []
  | _ :: _, [] => []
theorem flat_length : ∀ (ks : List UInt8) (vs : List Value), ks.length = vs.length → (flat ks vs).length = 2 * ks.length
  | [], [], _ => rfl
  | _ :: ks, _ :: vs, h => by simp [flat, flat_length ks vs (by simpa using h)]; omega
  | [], _ :: _, h => by simp at h
  | _ :: _, [], h => by simp at h
theorem flat_snoc : ∀ (ks : List UInt8) (vs : List Value) (k : UInt8) (v : Value), ks.length = vs.length → flat (ks ++ [k]) (vs ++ [v]) = flat ks vs ++ [bv k, v]
  | [], [], _, _, _ => rfl
  | _ :: ks, _ :: vs, k, v, h => by simp [flat, flat_snoc ks vs k v (by simpa using h)]
  | [], _ :: _, _, _, h => by simp at h
  | _ :: _, [], _, _, h => by simp at h
theorem flat_at : ∀ (ks : List UInt8) (vs : List Value) (i : Nat) (hk : i < ks.length) (_ : i < vs.length), (flat ks vs)[2 * i]? = some (bv ks[i]) ∧ (flat ks vs)[2 * i + 1]? = vs[i]?
  | k :: ks, v :: vs, 0, _, _ => by simp [flat]
  | k :: ks, v :: vs, i + 1, hk, hv => by
    have := flat_at ks vs i (by simpa using hk) (by simpa using hv)
    simpa [flat, Nat.mul_add] using this
  | [], _, _, hk, _ => by simp at hk
  | _ :: _, [], _, _, hv => by simp at hv
theorem flat_take : ∀ (ks : List UInt8) (vs : List Value) (k : Nat), (flat ks vs).take (2 * k) = flat (ks.take k) (vs.take k)
  | k :: ks, v :: vs, 0 => by simp [flat]
  | k :: ks, v :: vs, i + 1 => by simp [flat, Nat.mul_add, flat_take ks vs i]
  | [], _, i => by simp [flat]
  | _ :: _, [], i => by cases i <;> simp [flat]

theorem own_below {w w' : World} {base : Nat} {e : TypeId} {size : Nat} {v : Value} {n : Nat} {xs : List Value} (h : w.ownsRow base e size v n xs) (hb : Below w.heap.size w w') : w'.ownsRow base e size v n xs :=
  h.kept (row := none) ⟨hb.os, hb.tape, hb.output, hb.size, fun k hk _ => hb.block k hk⟩ (by cases h : v.ownBlock with | none => exact .inl rfl | some g => exact .inr (by simp))

theorem info22 : (Tryd.prog.info? 22).map (fun i => (i.zero, i.size, i.bytes)) = some (some (.slice none 0 0), 1, 24) := by kernel_rfl
theorem info44 : (Tryd.prog.info? 44).map (fun i => (i.zero, i.size, i.bytes)) = some (some (.agg #[.int .u8 0, .slice none 0 0]), 2, 32) := by kernel_rfl
theorem bv_oneCell (c : UInt8) : ∀ u ∈ [bv c], u.oneCell' = true := by simp [bv, Value.oneCell']
theorem slice_oneCell (A : Option Addr) (n c : Nat) : ∀ u ∈ [Value.slice A n c], u.oneCell' = true := by simp [Value.oneCell']

/-- rows of distinct types lie in distinct blocks -/
theorem own_ne {w : World} {B B' : Nat} {e e' : TypeId} {s s' : Nat} {v v' : Value} {n n' : Nat} {xs xs' : List Value} (h : w.ownsRow B e s v n xs) (h' : w.ownsRow B' e' s' v' n' xs') (he : e ≠ e') : v.ownBlock = none ∨ v.ownBlock ≠ v'.ownBlock := by
  cases hv : v.ownBlock with
  | none => exact .inl rfl
  | some g =>
    right
    intro e0
    obtain ⟨c, fz, h1⟩ := Lib.ownsRow_kind h g hv
    obtain ⟨c', fz', h2⟩ := Lib.ownsRow_kind h' g e0.symm
    rw [h1] at h2
    injection h2 with h2
    injection h2 with _ h2 _
    exact he h2
end Go.Proofs.YtpdbbiokndhghaaDoor
