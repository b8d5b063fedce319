/-
  FOR THE ROWS OF THIS SEAT: an act that came in, opened. No condition of its own.
-/
import Derived.Test.YtjbcmepnlnfkjaaBgRowA
import Derived.Test.YtjbcmepnlnfkjaaRows
import Derived.Test.YtjbcmepnlnfkjaaBgA
namespace Go.Proofs.Ytjbcmepnlnfkjaa
open Go Go.RowKit Go.Proofs Go.ChangeShapes Go.WideShapes

section
variable {H : Type} {enc : TypeId × Value → H} {P : Program}
theorem read_bytes {W : World} {t e : TypeId} {v : Value} {x : DataW H × List MemPlace} {fuel : Nat} (ht : P.underlying t = some (.slice e)) (he : P.underlying e = some (.int .u8)) (hc : P.cellsOf e = 1)
    (hf : DataW.trod enc P W 0 (fun _ => true) true fuel t [v] = some x) :
    ∃ A c l, v = .slice A (l : List UInt8).length c ∧ l.length ≤ c ∧ Bytes W A l ∧ (l.length = 0 ∨ ∃ el sp, x.1 = .slice el sp ∧ el.length = l.length) := by
  rcases open_ints ht he hc hf with ⟨hcs, hx⟩ | ⟨a, len', cap', zs, hcs, _, hl, hm, hz, hx, hcell, hwz⟩
  · simp only [List.cons.injEq, and_true] at hcs
    subst hcs
    exact ⟨none, 0, [], rfl, by simp, Bytes.none_ _ _, .inl rfl⟩
  · simp only [List.cons.injEq, and_true] at hcs
    subst hcs
    subst hx
    simp only [if_true] at hz
    have hlen : ((zs.take len').map fun z => UInt8.ofNat z.toNat).length = len' := by simp; omega
    refine ⟨some a, cap', (zs.take len').map fun z => UInt8.ofNat z.toNat, by rw [hlen], by omega, fun hpos => ?_, .inr ⟨_, _, rfl, by simp [lits]⟩⟩
    rw [hlen] at hpos
    obtain ⟨b, off, rfl, hc'⟩ := ints_at hcell (by omega)
    refine ⟨b, off, rfl, World.block_lt_of_cell? W _ (hc' 0 (by omega)), fun j hj => ?_⟩
    rw [hlen] at hj
    rw [hc' j (by omega)]
    have hzj : j < zs.length := by omega
    have hb := bounds_u8 (hwz _ (List.getElem_mem hzj))
    simp only [List.getElem_map, List.getElem_take, bv]
    rw [List.getD_eq_getElem?_getD, List.getElem?_eq_getElem hzj, Option.getD_some, UInt8.toNat_ofNat']
    congr 3
    omega

end

theorem okWide_struct {P : Program} {W : World} {r : Reach} {base : Nat} {t : TypeId} {fs : Array Field} {v : Value} (ht : P.underlying t = some (.struct fs)) (h : Value.okWide P W r base t v) : ∃ cs, v = .agg cs ∧ cs.size = P.cellsOf t := by
  simp only [Value.okWide, ht] at h
  obtain ⟨cs, h1, h2, _⟩ := h
  exact ⟨cs, h1, h2⟩

theorem read_act {H : Type} {enc : TypeId × Value → H} {W : World} {cs : List Value} {x : DataW H × List MemPlace} {fuel : Nat} (hf : DataW.trod enc Try.prog W 0 (fun _ => true) true fuel 28 cs = some x) :
    ∃ (d a b : Int) (A : Option Addr) (c : Nat) (l : List UInt8), cs = [.int .i64 d, .int .i64 a, .int .i64 b, .slice A l.length c] ∧ InI64 a ∧ InI64 b ∧ l.length ≤ c ∧ Bytes W A l ∧
      ∃ x0 x1 x2 x3 : DataW H, x.1 = .agg [x0, x1, x2, x3] ∧ (l.length = 0 ∨ ∃ el sp, x3 = .slice el sp ∧ el.length = l.length) := by
  obtain ⟨xs, m, _, hx, hl, hxl, hg⟩ := DataW.trod_struct Try.underlying28 hf
  have hl4 : cs.length = 4 := hl.trans (by kernel_rfl)
  match cs, hl4, xs, hxl with
  | [c0, c1, c2, c3], _, [y0, y1, y2, y3], _ =>
    have g0 : DataW.trod enc Try.prog W 0 (fun _ => true) true m 3 (([c0, c1, c2, c3].drop 0).take (Try.prog.cellsOf 3)) = some y0 := hg 0 { name := "Do", type := 3, offset := 0, embedded := false, tag := "", pkgPath := "", byteOffset := 0 } rfl
    have g1 : DataW.trod enc Try.prog W 0 (fun _ => true) true m 3 (([c0, c1, c2, c3].drop 1).take (Try.prog.cellsOf 3)) = some y1 := hg 1 { name := "A", type := 3, offset := 1, embedded := false, tag := "", pkgPath := "", byteOffset := 8 } rfl
    have g2 : DataW.trod enc Try.prog W 0 (fun _ => true) true m 3 (([c0, c1, c2, c3].drop 2).take (Try.prog.cellsOf 3)) = some y2 := hg 2 { name := "B", type := 3, offset := 2, embedded := false, tag := "", pkgPath := "", byteOffset := 16 } rfl
    have g3 : DataW.trod enc Try.prog W 0 (fun _ => true) true m 26 (([c0, c1, c2, c3].drop 3).take (Try.prog.cellsOf 26)) = some y3 := hg 3 { name := "Data", type := 26, offset := 3, embedded := false, tag := "", pkgPath := "", byteOffset := 24 } rfl
    have z3 : Try.prog.cellsOf 3 = 1 := by kernel_rfl
    have z26 : Try.prog.cellsOf 26 = 1 := by kernel_rfl
    rw [z3] at g0 g1 g2
    rw [z26] at g3
    simp at g0 g1 g2 g3
    obtain ⟨n0, e0, _, w0⟩ := DataW.trod_int Try.underlying3 g0
    obtain ⟨n1, e1, _, w1⟩ := DataW.trod_int Try.underlying3 g1
    obtain ⟨n2, e2, _, w2⟩ := DataW.trod_int Try.underlying3 g2
    obtain ⟨A, c, l, e3, h3, hB, h4⟩ := read_bytes Try.underlying26 Try.underlying5 (by kernel_rfl) g3
    simp at e0 e1 e2
    subst e0 e1 e2 e3
    exact ⟨n0, n1, n2, A, c, l, rfl, bounds_i64 w1, bounds_i64 w2, h3, hB, y0.1, y1.1, y2.1, y3.1, by rw [hx]; rfl, h4⟩

theorem open_act {H : Type} {enc : TypeId × Value → H} {W : World} {r : Reach} {base : Nat} {v : Value} {d : DataW H} {p : List MemPlace} (hv : Value.okWide Try.prog W r base 28 v) (h : DataW.Trod enc Try.prog W 0 (fun _ => true) true 28 v d p) :
    ∃ (k a b : Int) (A : Option Addr) (n c : Nat), v = .agg #[.int .i64 k, .int .i64 a, .int .i64 b, .slice A n c] := by
  obtain ⟨cs, rfl, hsz⟩ := okWide_struct Try.underlying28 hv
  obtain ⟨fuel, hf⟩ := h
  obtain ⟨k, a, b, A, c, l, e, _⟩ := read_act hf
  simp only [Value.cells] at e
  refine ⟨k, a, b, A, l.length, c, ?_⟩
  congr 1
  exact Array.toList_inj.1 e
end Go.Proofs.Ytjbcmepnlnfkjaa
