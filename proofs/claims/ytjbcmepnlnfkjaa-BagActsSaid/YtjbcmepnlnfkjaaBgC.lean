/-
  A BAG's MAP: which pairs it holds (PMap): made, kept, read, written. No condition of its own.
-/
import Derived.Test.YtjbcmepnlnfkjaaBgB
import Derived.Maps.Views
import Derived.WideKeyPair
import Derived.MapViews
namespace Go.Proofs.Ytjbcmepnlnfkjaa
open Go Go.RowKit Go.Proofs
open Go.Maps (Keyed)

theorem arr59 : WideMaps.ArrKey Try.prog 59 3 2 := ⟨Try.underlying59, by kernel_rfl, by kernel_rfl, by kernel_rfl⟩
theorem keyed59 : Keyed Try.prog 59 := Keyed.of_law arr59.law
theorem wf_i64 {a : Int} (h : InI64 a) : (Lit.int .i64 a).wf = true := by
  unfold InI64 at h
  simp [Lit.wf, IntKind.min, IntKind.max, IntKind.signed, IntKind.bits]
  omega
theorem key_pair_at (w : World) (a b : Int) (ha : InI64 a) (hb : InI64 b) : ∃ kl, keyOf Try.prog 59 (.agg #[.int .i64 a, .int .i64 b]) = some kl :=
  ⟨_, (keyOf_asKey (H := Unit) (enc := fun _ => ()) (P := Try.prog) (w := w) (base := 0) (sp := fun _ => true) (held := true) (k := 59) (by kernel_rfl) (by rw [Try.underlying59]) (by simp [Value.formed, Try.underlying59]; kernel_rfl) (WideMaps.shut_pair arr59 Try.underlying3 (wf_i64 ha) (wf_i64 hb))).1⟩

/-- THE MAP AT m HOLDS THE PAIRS OF S (at most n entries) -/
def PMap (w : World) (m n : Nat) (S : Int → Int → Bool) : Prop :=
  ∃ D : DataW Unit, w.ownsMap Try.prog 59 (plainElem Try.prog 4) m n D ∧ Maps.IsMap D ∧ ∀ a b kl, keyOf Try.prog 59 (.agg #[.int .i64 a, .int .i64 b]) = some kl → D.atKey kl (.lit (.bool false)) = .lit (.bool (S a b))

theorem PMap.lt {w : World} {m n : Nat} {S : Int → Int → Bool} (h : PMap w m n S) : m < w.heap.size := by
  obtain ⟨D, h1, _⟩ := h
  exact h1.lt
theorem PMap.same {w w' : World} {m n : Nat} {S : Int → Int → Bool} (h : PMap w m n S) (hk : w'.heap[m]? = w.heap[m]?) : PMap w' m n S := by
  obtain ⟨D, ⟨es, clock, hb, F, hs, hD⟩, h2, h3⟩ := h
  exact ⟨D, ⟨es, clock, hk.trans hb, F, hs, hD⟩, h2, h3⟩
theorem PMap.below {w w' : World} {m n : Nat} {S : Int → Int → Bool} (h : PMap w m n S) (hb : Below w.heap.size w w') : PMap w' m n S := h.same (hb.block m h.lt)
theorem PMap.made {w : World} {m : Nat} (h : w.heap[m]? = some (.map #[] 0)) : PMap w m 0 (fun _ _ => false) :=
  ⟨.map [], ⟨#[], 0, h, ⟨by simp, MapKept.stamped_empty 0, by simp⟩, Nat.le_refl _, rfl⟩, Maps.isMap_empty, fun _ _ _ _ => rfl⟩

theorem plainElem_bool_inv {v : Value} {z : DataW Unit × List MemPlace} (h : plainElem Try.prog 4 v = some z) : ∃ b, v = .bool b ∧ z = (.lit (.bool b), []) := by
  unfold plainElem at h
  rw [Try.underlying4] at h
  cases v <;> simp at h
  exact ⟨_, rfl, h.symm⟩

theorem info4 : (Try.prog.info? 4).map (fun i => (i.zero, i.size, i.bytes)) = some (some (.bool false), 1, 1) := by kernel_rfl
theorem zero4 (w : World) : (zeroValue 4).run Try.prog w = .ok (.bool false) w := by
  obtain ⟨i0, hi, hz0, hz1, hz2⟩ := info_parts info4
  simp [zeroValue, typeInfo, hi, hz0]
theorem PMap.look {w : World} {m n : Nat} {S : Int → Int → Bool} (h : PMap w m n S) {a b : Int} (ha : InI64 a) (hb : InI64 b) :
    (Instr.lookup 48 (.map (some m)) (.agg #[.int .i64 a, .int .i64 b]) false).run Try.prog w = .ok (.bool (S a b)) w := by
  obtain ⟨D, h1, h2, h3⟩ := h
  obtain ⟨kl, hkl⟩ := key_pair_at w a b ha hb
  obtain ⟨v, ps, hrun, hv⟩ := h1.lookup (t := 48) (e := 4) keyed59 Try.underlying48 (z := .bool false) (zero4 w) (plainElem_bool Try.underlying4 false) hkl
  obtain ⟨x, rfl, hx⟩ := plainElem_bool_inv hv
  rw [h3 a b kl hkl] at hx
  injection hx with hx _
  injection hx with hx
  injection hx with hx
  rw [hrun, hx]

/-- a pair more -/
theorem PMap.put {w : World} {m n : Nat} {S : Int → Int → Bool} (h : PMap w m n S) (hn : n < maxLen) {a b : Int} (ha : InI64 a) (hb : InI64 b) :
    ∃ w', (Instr.mapUpdate 48 (.map (some m)) (.agg #[.int .i64 a, .int .i64 b]) (.bool true)).run Try.prog w = .ok () w' ∧ PMap w' m (n + 1) (fun x y => decide (x = a ∧ y = b) || S x y) ∧ w.grownBy w' (some m) := by
  obtain ⟨D, h1, h2, h3⟩ := h
  obtain ⟨kl, hkl⟩ := key_pair_at w a b ha hb
  obtain ⟨w', hrun, h4, h5⟩ := h1.update (t := 48) (e := 4) keyed59 Try.underlying48 hn hkl (plainElem_bool Try.underlying4 true)
  refine ⟨w', hrun, ⟨D.put kl (.lit (.bool true)), h4, h2.put _ _, fun x y kl' hkl' => ?_⟩, h5⟩
  by_cases e : x = a ∧ y = b
  · obtain ⟨rfl, rfl⟩ := e
    have : kl' = kl := by rw [hkl] at hkl'; injection hkl' with h; exact h.symm
    subst this
    rw [Maps.atKey_put_same h2 (keyed59.key hkl)]
    simp
  · have hne : kl' ≠ kl := by
      intro he
      subst he
      have := keyed59.inj hkl' hkl
      injection this with this
      have h0 := congrArg (fun l : Array Value => l.toList) this
      simp at h0
      exact e h0
    rw [Maps.atKey_put_other hne, h3 x y kl' hkl']
    simp [e]
/-- none -/
theorem PMap.clear {w : World} {m n : Nat} {S : Int → Int → Bool} (h : PMap w m n S) (ty : TypeId) :
    ∃ w', (Builtin.clear_ #[48] ty #[.map (some m)]).run Try.prog w = .ok (.tuple #[]) w' ∧ PMap w' m 0 (fun _ _ => false) ∧ w.grownBy w' (some m) := by
  obtain ⟨D, ⟨es, clock, hb, F, hs, hD⟩, h2, h3⟩ := h
  have hlt : m < w.heap.size := (Array.getElem?_eq_some_iff.1 hb).1
  refine ⟨ChangeMaps.setBlock w m (.map #[] clock), ?_, ⟨.map [], ⟨#[], clock, ChangeMaps.heap_setBlock_same hb _, ⟨by simp, MapKept.stamped_empty clock, by simp⟩, Nat.le_refl _, rfl⟩, Maps.isMap_empty, fun _ _ _ _ => rfl⟩,
    ⟨rfl, rfl, rfl, by simp [ChangeMaps.setBlock], fun k hk hne => ChangeMaps.heap_setBlock_other hb _ (fun e => hne (by rw [e]))⟩⟩
  simp [Builtin.clear_, run_underlying Try.underlying48, getObj, setObj]
  have hv := (Array.getElem?_eq_some_iff.1 hb).2
  simp [Sem.run, hlt, hv, Result.andThen, ChangeMaps.setBlock]
end Go.Proofs.Ytjbcmepnlnfkjaa
