/-
  FOR THE ROWS OF THIS SEAT: a slice of acts that came in, opened. No condition of its own.
-/
import Derived.Test.YtjbcmepnlnfkjaaBgRowB
import Derived.Test.YtjbcmepnlnfkjaaBgQ
import Derived.Deep.Slices
namespace Go.Proofs.Ytjbcmepnlnfkjaa
open Go Go.RowKit Go.Proofs Go.ChangeShapes Go.WideShapes Go.Deep

instance : Inhabited ActV := ⟨⟨0, 0, 0, none, 0, []⟩⟩

theorem weights_all {H : Type} {P : Program} {e : TypeId} {d : DataW H} : ∀ {l : List (DataW H)}, d ∈ l → ∀ n ∈ d.weights P e, n ∈ DataW.weightsAll P e l
  | x :: l, h, n, hn => by
    unfold DataW.weightsAll
    rcases List.mem_cons.1 h with rfl | h
    · exact List.mem_append.2 (.inl hn)
    · exact List.mem_append.2 (.inr (weights_all h n hn))
  | [], h, _, _ => by cases h

/-- one act, its cells at an address -/
theorem act_cells {W : World} {b o : Nat} {cs : List Value} {x : ActV} (h : W.cells? 0 ⟨b, o, none⟩ 4 = some cs) (hx : cs = [.int .i64 x.d, .int .i64 x.a, .int .i64 x.b, .slice x.A x.l.length x.c]) : ActW W b o x := by
  obtain ⟨_, _, hc⟩ := World.cells?_some h
  have h0 := hc 0 (by omega)
  have h1 := hc 1 (by omega)
  have h2 := hc 2 (by omega)
  have h3 := hc 3 (by omega)
  rw [hx] at h0 h1 h2 h3
  rw [add_plain] at h0 h1 h2 h3
  exact ⟨h0, h1, h2, h3⟩

theorem open_acts {H : Type} {enc : TypeId × Value → H} {W : World} {r : Reach} {base : Nat} {v : Value} {d : DataW H} {p : List MemPlace} (hv : Value.okWide Try.prog W r base 22 v) (h : DataW.Trod enc Try.prog W 0 (fun _ => true) true 22 v d p)
    (hz : ∀ n ∈ d.weights Try.prog 22, n ≤ reachBytes) : ∃ A n c l, v = .slice A n c ∧ l.length = n ∧ n ≤ c ∧ c ≤ maxLen ∧ ActsW W A l := by
  obtain ⟨a0, len0, cap0, rfl⟩ := okWide_slice Try.underlying22 hv
  obtain ⟨fuel, hf⟩ := h
  have z28 : Try.prog.cellsOf 28 = 4 := by kernel_rfl
  have b5 : Try.prog.bytesOf 5 = 1 := by kernel_rfl
  rcases open_slice Try.underlying22 hf with ⟨hcs, _⟩ | ⟨a, len, cap, mm, nf, D, Pl, hcs, _, hl, hm, hmm, hx, hcell⟩
  · simp only [Value.cells, List.cons.injEq, and_true] at hcs
    injection hcs with h1 h2 h3
    subst h1 h2 h3
    exact ⟨none, 0, 0, [], rfl, rfl, by omega, by omega, fun h => absurd h (by simp)⟩
  · simp only [Value.cells, List.cons.injEq, and_true] at hcs
    injection hcs with h1 h2 h3
    subst h1 h2 h3
    simp only [if_true] at hmm
    subst hmm
    simp only [Prod.mk.injEq] at hx
    obtain ⟨hd, _⟩ := hx
    rw [z28] at hcell
    obtain ⟨V, hV⟩ := choose_lt (α := ActV) (n := len0) (p := fun i x => (∃ cs, W.cells? 0 (a.add (i * 4)) 4 = some cs ∧ cs = [.int .i64 x.d, .int .i64 x.a, .int .i64 x.b, .slice x.A x.l.length x.c]) ∧ ActOk W x) (fun i hi => by
      obtain ⟨cs, h1, h2⟩ := hcell i (by omega)
      obtain ⟨d', a', b', A', c', l', e1, e2, e3, e4, e5, x0, x1, x2, x3, e6, e7⟩ := read_act h2
      refine ⟨⟨d', a', b', A', c', l'⟩, ⟨cs, h1, e1⟩, e2, e3, ?_, e5⟩
      rcases e7 with e7 | ⟨el, sp, e7, e8⟩
      · simp only; omega
      · have hmem : (el.length + sp.length) * Try.prog.bytesOf 5 ∈ d.weights Try.prog 22 := by
          rw [hd]
          unfold DataW.weights
          simp only [Try.underlying22]
          refine List.mem_cons_of_mem _ (List.mem_append.2 (.inl (weights_all (d := D i) (List.mem_map.2 ⟨i, by simpa using hi, rfl⟩) _ ?_)))
          have e6' : D i = .agg [x0, x1, x2, x3] := e6
          rw [e6']
          unfold DataW.weights
          simp only [Try.underlying28]
          refine DataW.weights_mem_each (j := 3) (t := 26) (d := x3) rfl rfl _ ?_
          rw [e7]
          unfold DataW.weights
          simp only [Try.underlying26]
          exact List.mem_cons_self
        have := hz _ hmem
        rw [b5] at this
        unfold reachBytes at this
        simp only
        omega)
    refine ⟨some a, len0, _, (List.range len0).map V, rfl, by simp, hl, hm, fun hpos => ?_⟩
    have hlen : 0 < len0 := by simpa using hpos
    have hspot : a.spot = none := by
      obtain ⟨⟨cs, h1, h2⟩, _⟩ := hV 0 hlen
      obtain ⟨_, _, hc⟩ := World.cells?_some h1
      have := hc 0 (by omega)
      rw [h2] at this
      simpa [Addr.add] using World.cell?_spot this
    obtain ⟨b, off, spot⟩ := a
    simp only at hspot
    subst hspot
    refine ⟨b, off, rfl, fun j hj => ?_⟩
    have hj' : j < len0 := by simpa using hj
    obtain ⟨⟨cs, h1, h2⟩, h3⟩ := hV j hj'
    rw [add_plain] at h1
    simp only [List.getElem_map, List.getElem_range]
    exact ⟨act_cells h1 h2, h3⟩
end Go.Proofs.Ytjbcmepnlnfkjaa
