/-
  FOR THE ROWS OF THIS SEAT: an argument that is a slice of slices of bytes, and a number of 64 bits, opened. No condition of its own.
-/
import Derived.Test.YtpdbbiokndhghaaDoorRowB
import Derived.Test.YtpdbbiokndhghaaDoorFrmN
namespace Go.Proofs.YtpdbbiokndhghaaDoor
open Go Go.RowKit Go.Proofs Go.ChangeShapes Go.WideShapes

theorem list_of {α : Type} {Q : Nat → α → Prop} : ∀ n : Nat, (∀ i, i < n → ∃ x, Q i x) → ∃ xs : List α, xs.length = n ∧ ∀ i x, xs[i]? = some x → Q i x
  | 0, _ => ⟨[], rfl, fun i x h => by simp at h⟩
  | n + 1, h => by
    obtain ⟨xs, h1, h2⟩ := list_of n (fun i hi => h i (by omega))
    obtain ⟨x, hx⟩ := h n (by omega)
    refine ⟨xs ++ [x], by simp [h1], fun i y hy => ?_⟩
    rcases Nat.lt_or_ge i xs.length with hi | hi
    · rw [List.getElem?_append_left hi] at hy
      exact h2 i y hy
    · rw [List.getElem?_append_right hi] at hy
      have : i = n := by
        have := (List.getElem?_eq_some_iff.1 hy).1
        simp at this
        omega
      subst this
      rw [h1] at hy
      simp at hy
      rw [← hy]
      exact hx
theorem sls_of {w : World} {P : Nat → Prop} : ∀ (xs : List (Value × List UInt8)), (∀ x ∈ xs, ∃ A c, x.1 = .slice A x.2.length c ∧ x.2.length ≤ c ∧ Bytes w A x.2 ∧ (0 < x.2.length → ∀ a, A = some a → P a.block)) → Sls w P (xs.map Prod.fst) (xs.map Prod.snd)
  | [], _ => trivial
  | x :: r, h => ⟨h x (by simp), sls_of r (fun y hy => h y (by simp [hy]))⟩
theorem spotless {w : World} {a : Addr} {v : Value} (h : w.cell? a = some v) : a = ⟨a.block, a.off, none⟩ := by
  obtain ⟨b, o, s⟩ := a
  cases s with
  | none => rfl
  | some s => unfold World.cell? at h; split at h <;> simp at h

section
variable {H : Type} {enc : TypeId × Value → H} {P : Program}
theorem read_bytes {W : World} {t e : TypeId} {v : Value} {x : DataW H × List MemPlace} {fuel : Nat} (ht : P.underlying t = some (.slice e)) (he : P.underlying e = some (.int .u8)) (hc : P.cellsOf e = 1)
    (hf : DataW.trod enc P W 0 (fun _ => true) true fuel t [v] = some x) :
    ∃ A c l, v = .slice A (l : List UInt8).length c ∧ l.length ≤ c ∧ Bytes W A l ∧ (l.length = 0 ∨ ∃ el sp, x.1 = .slice el sp ∧ el.length = l.length) := by
  rcases open_ints ht he hc hf with ⟨hcs, hx⟩ | ⟨a, len', cap', zs, hcs, _, hl, hm, hz, hx, hcell, hwz⟩
  · simp only [List.cons.injEq, and_true] at hcs
    subst hcs
    exact ⟨none, 0, [], rfl, by simp, Bytes.none_ _ _, .inl rfl⟩
  · simp only [List.cons.injEq, and_true] at hcs
    subst hcs
    subst hx
    simp only [if_true] at hz
    have hlen : ((zs.take len').map fun z => UInt8.ofNat z.toNat).length = len' := by simp; omega
    refine ⟨some a, cap', (zs.take len').map fun z => UInt8.ofNat z.toNat, by rw [hlen], by omega, fun hpos => ?_, .inr ⟨_, _, rfl, by simp [lits]⟩⟩
    rw [hlen] at hpos
    obtain ⟨b, off, rfl, hc'⟩ := ints_at hcell (by omega)
    refine ⟨b, off, rfl, World.block_lt_of_cell? W _ (hc' 0 (by omega)), fun j hj => ?_⟩
    rw [hlen] at hj
    rw [hc' j (by omega)]
    have hzj : j < zs.length := by omega
    have hb := bounds_u8 (hwz _ (List.getElem_mem hzj))
    simp only [List.getElem_map, List.getElem_take, bv]
    rw [List.getD_eq_getElem?_getD, List.getElem?_eq_getElem hzj, Option.getD_some, UInt8.toNat_ofNat']
    congr 3
    omega

theorem open_slices {W : World} {t e e8 : TypeId} {v : Value} {d : DataW H} {p : List MemPlace} {r : Reach} {base : Nat} (ht : P.underlying t = some (.slice e)) (he : P.underlying e = some (.slice e8)) (he8 : P.underlying e8 = some (.int .u8)) (hc : P.cellsOf e = 1) (hc8 : P.cellsOf e8 = 1)
    (hv : Value.okWide P W r base t v) (h : DataW.Trod enc P W 0 (fun _ => true) true t v d p) :
    ∃ A n c vs ds, v = .slice A n c ∧ (ds : List (List UInt8)).length = n ∧ n ≤ c ∧ Row W A vs ∧ Sls W (fun b => b < W.heap.size) vs ds ∧
      ((d = .nil ∧ n = 0) ∨ ∃ elems spare, d = .slice elems spare ∧ elems.length = n ∧ ∀ l ∈ ds, l.length = 0 ∨ ∃ el sp, DataW.slice el sp ∈ elems ∧ el.length = l.length) := by
  obtain ⟨a0, len0, cap0, rfl⟩ := okWide_slice ht hv
  obtain ⟨fuel, hf⟩ := h
  rcases DataW.trod_slice ht hf with ⟨hcs, hx⟩ | ⟨a, len, cap, elems, rest, n, _, hcs, hx, hb, hl, hm, hlen, hel, hsp, hns⟩
  · simp only [Value.cells, List.cons.injEq, and_true] at hcs
    injection hcs with h1 h2 h3
    subst h1 h2 h3
    simp only [Prod.mk.injEq] at hx
    exact ⟨none, 0, 0, [], [], rfl, rfl, by omega, fun h => absurd h (by simp), trivial, .inl ⟨hx.1, rfl⟩⟩
  · simp only [Value.cells, List.cons.injEq, and_true] at hcs
    injection hcs with h1 h2 h3
    subst h1 h2 h3
    simp only [Prod.mk.injEq] at hx
    have each : ∀ i, i < len0 → ∃ x : Value × List UInt8, W.cell? (a.add i) = some x.1 ∧ (∃ A c, x.1 = .slice A x.2.length c ∧ x.2.length ≤ c ∧ Bytes W A x.2) ∧ (x.2.length = 0 ∨ ∃ el sp, DataW.slice el sp ∈ elems.map (·.1) ∧ el.length = x.2.length) := by
      intro i hi
      have hE := hel i hi
      rw [hc, Nat.mul_one, List.getElem?_eq_getElem (by omega), Option.bind_eq_some_iff] at hE
      obtain ⟨cs1, h1, h2⟩ := hE
      have hone : ∃ u, cs1 = [u] := by
        have hl1 := (World.cells?_some h1).2.1
        match cs1, hl1 with
        | [u], _ => exact ⟨u, rfl⟩
      obtain ⟨u, rfl⟩ := hone
      obtain ⟨A, c, l, e1, e2, e3, e4⟩ := read_bytes he he8 hc8 h2
      refine ⟨(u, l), cell_of_cells?_one h1, ⟨A, c, e1, e2, e3⟩, ?_⟩
      rcases e4 with e4 | ⟨el, sp, e4, e5⟩
      · exact .inl e4
      · refine .inr ⟨el, sp, ?_, e5⟩
        rw [← e4]
        exact List.mem_map.2 ⟨elems[i], List.getElem_mem _, rfl⟩
    obtain ⟨xs, hxl, hxs⟩ := list_of len0 each
    have hmem : ∀ x ∈ xs, (∃ A c, x.1 = .slice A x.2.length c ∧ x.2.length ≤ c ∧ Bytes W A x.2) ∧ (x.2.length = 0 ∨ ∃ el sp, DataW.slice el sp ∈ elems.map (·.1) ∧ el.length = x.2.length) := by
      intro x hx
      obtain ⟨i, hi⟩ := List.getElem?_of_mem hx
      exact (hxs i x hi).2
    refine ⟨some a, len0, cap0, xs.map Prod.fst, xs.map Prod.snd, rfl, by simp [hxl], hl, fun hpos => ?_, sls_of xs fun x hx => ?_, .inr ⟨_, _, hx.1, by simp [hlen], fun l hl => ?_⟩⟩
    · rw [List.length_map] at hpos
      have h0 := (hxs 0 _ (List.getElem?_eq_getElem hpos)).1
      have ha := spotless h0
      have ha0 : a.add 0 = a := by simp [Addr.add]
      rw [ha0] at ha h0
      refine ⟨a.block, a.off, by rw [← ha], World.block_lt_of_cell? W _ h0, fun j u hj => ?_⟩
      rw [List.getElem?_map] at hj
      obtain ⟨x, hx, rfl⟩ := Option.map_eq_some_iff.1 hj
      have := (hxs j x hx).1
      rw [ha, add_plain] at this
      exact this
    · obtain ⟨⟨A, c, h1, h2, h3⟩, _⟩ := hmem x hx
      refine ⟨A, c, h1, h2, h3, fun hl a ha => ?_⟩
      obtain ⟨b, off, e, hb, _⟩ := h3 hl
      rw [e] at ha
      injection ha with ha
      subst ha
      exact hb
    · obtain ⟨x, hx, rfl⟩ := List.mem_map.1 hl
      exact (hmem x hx).2

theorem open_i64 {W : World} {r : Reach} {base : Nat} {t : TypeId} {v : Value} {d : DataW H} {p : List MemPlace} (ht : P.underlying t = some (.int .i64))
    (hv : Value.okWide P W r base t v) (h : DataW.Trod enc P W 0 (fun _ => true) true t v d p) : ∃ k : Int, v = .int .i64 k ∧ -9223372036854775808 ≤ k ∧ k ≤ 9223372036854775807 := by
  obtain ⟨n, rfl⟩ := okWide_int ht hv
  obtain ⟨fuel, hf⟩ := h
  obtain ⟨n', e, _, w⟩ := DataW.trod_int ht hf
  simp [Value.cells] at e
  subst e
  have b := bounds_i64 w
  exact ⟨n, rfl, b.1, b.2⟩

theorem weight_in {ts : List TypeId} {ds : List (DataW H)} (h : (DataW.weightsEach P ts ds).all (· ≤ reachBytes) = true) {j : Nat} {t e e8 : TypeId} {elems spare el sp : List (DataW H)} (ht : ts[j]? = some t) (hd : ds[j]? = some (.slice elems spare)) (hu : P.underlying t = some (.slice e)) (hu8 : P.underlying e = some (.slice e8))
    (hm : DataW.slice el sp ∈ elems) : (el.length + sp.length) * P.bytesOf e8 ≤ reachBytes := by
  have all : ∀ (l : List (DataW H)), DataW.slice el sp ∈ l → (el.length + sp.length) * P.bytesOf e8 ∈ DataW.weightsAll P e l := by
    intro l
    induction l with
    | nil => intro h; cases h
    | cons x r ih =>
      intro h
      simp only [DataW.weightsAll, List.mem_append]
      rcases List.mem_cons.1 h with h | h
      · left
        rw [← h]
        simp [DataW.weights, hu8]
      · exact .inr (ih h)
  have := List.all_eq_true.1 h _ (DataW.weights_mem_each ht hd ((el.length + sp.length) * P.bytesOf e8) (by
    simp only [DataW.weights, hu, List.mem_cons, List.mem_append]
    exact .inr (.inl (all _ hm))))
  simpa using this
end
end Go.Proofs.YtpdbbiokndhghaaDoor
