/-
  CONTRACT of slices.Delete at a row of messages of the bag's own.
-/
import Derived.Test.YtjbcmepnlnfkjaaBgE
namespace Go.Proofs.Ytjbcmepnlnfkjaa
open Go Go.RowKit Go.Proofs

theorem flat3_one {w : World} {P : Nat → Prop} : ∀ {vs : List Value} {ms : List Msg}, Bods w P vs ms → ∀ u ∈ flat3 ms vs, u.oneCell' = true
  | [], [], _ => by simp [flat3]
  | v :: vs, m :: ms, h => by
    intro u hu
    obtain ⟨A, c, h1, _⟩ := h.1
    simp only [flat3, List.mem_cons] at hu
    rcases hu with rfl | rfl | rfl | hu
    · rfl
    · rfl
    · rw [h1]; rfl
    · exact flat3_one h.2 u hu
  | [], _ :: _, h => h.elim
  | _ :: _, [], h => h.elim

/-- the row's block -/
def RowAt (w : World) (q n cap : Nat) (xs : List Value) : Prop := ∃ cur, w.heap[q]? = some (.cells cur 55) ∧ cur.size = cap * 3 ∧ n ≤ cap ∧ cap ≤ maxLen ∧ xs.length = n * 3 ∧ cur.toList.take (n * 3) = xs
theorem RowAt.own {w : World} {q n cap B : Nat} {xs : List Value} (h : RowAt w q n cap xs) (hB : B ≤ q) : w.ownsRow B 55 3 (.slice (some ⟨q, 0, none⟩) n cap) n xs := by
  obtain ⟨cur, h1, h2, h3, h4, h5, h6⟩ := h
  exact ⟨h5, .inr ⟨q, cap, cur, rfl, hB, h1, h3, h4, h2, h6⟩⟩
theorem RowAt.of_own {w : World} {B n : Nat} {L : Value} {xs : List Value} (h : w.ownsRow B 55 3 L n xs) (hn : 0 < n) : ∃ q cap, L = .slice (some ⟨q, 0, none⟩) n cap ∧ B ≤ q ∧ RowAt w q n cap xs := by
  rcases h.2 with ⟨_, h0⟩ | ⟨q, cap, cur, e, hb, hg, h1, h2, h3, h4⟩
  · omega
  · exact ⟨q, cap, e, hb, cur, hg, h3, h1, h2, h.1, h4⟩

/-- append of the row's own end onto its beginning -/
theorem RowAt.moved {w : World} {q n cap i j m : Nat} {xs : List Value} (h : RowAt w q n cap xs) (h1 : ∀ u ∈ xs, u.oneCell' = true) (hij : i ≤ j) (hj : j + m = n) (a : Addr) (ha : m = 0 ∨ a = ⟨q, j * 3, none⟩) (c : Nat) (ty : TypeId) :
    ∃ w', (Builtin.append_ #[47, 47] ty #[.slice (some ⟨q, 0, none⟩) i cap, .slice (some a) m c]).run Try.prog w = .ok (.slice (some ⟨q, 0, none⟩) (i + m) cap) w' ∧ RowAt w' q (i + m) cap (xs.take (i * 3) ++ xs.drop (j * 3)) ∧ w.grownBy w' (some q) := by
  obtain ⟨cur, hg, hs, hc, hm, hl, ht⟩ := h
  obtain ⟨i1, hi, hz0, hz1, hz2⟩ := info_parts info55
  have hnl : (xs.drop (j * 3)).length = m * i1.size := by rw [hz1, List.length_drop, hl, ← Nat.sub_mul]; congr 1; omega
  have hnews : ∀ k u, (xs.drop (j * 3))[k]? = some u → w.cell? (a.add k) = some u := by
    intro k u hk
    have hkl := (List.getElem?_eq_some_iff.1 hk).1
    rcases ha with h0 | rfl
    · subst h0; rw [hnl] at hkl; omega
    · rw [add_plain]
      unfold World.cell?
      simp only [hg]
      rw [List.getElem?_drop, ← ht, List.getElem?_take] at hk
      split at hk
      · simpa using hk
      · cases hk
  have hfit : i * i1.size + (xs.drop (j * 3)).length ≤ cur.size := by rw [hnl, hz1, hs, ← Nat.add_mul]; exact Nat.mul_le_mul_right _ (by omega)
  have hrun := run_append_room (P := Try.prog) (ty := ty) w 47 55 i1 Try.underlying47 hi q i cap cur hg a m c (xs.drop (j * 3)) hnl hnews (fun u hu => h1 u (List.mem_of_mem_drop hu)) (by omega) hfit
  rw [hz1] at hrun hnl hfit
  refine ⟨_, hrun, ⟨_, setRow_heap w q cur _ 55 _ hg, ?_, by omega, hm, ?_, ?_⟩, ⟨rfl, rfl, rfl, by simp [World.setRow], fun k _ hk => setRow_other w q k _ (fun e => hk (by rw [e]))⟩⟩
  · simp only [List.size_toArray, List.length_append, List.length_take, List.length_drop, Array.length_toList]
    simp only [List.length_drop] at hfit
    omega
  · rw [List.length_append, List.length_take, hnl, hl, Nat.add_mul, Nat.min_eq_left (Nat.mul_le_mul_right _ (by omega))]
  · have e1 : cur.toList.take (i * 3) = xs.take (i * 3) := by
      rw [← ht, List.take_take, Nat.min_eq_left (Nat.mul_le_mul_right _ (by omega))]
    have e2 : (xs.take (i * 3) ++ xs.drop (j * 3)).length = (i + m) * 3 := by
      rw [List.length_append, List.length_take, hnl, hl, Nat.add_mul, Nat.min_eq_left (Nat.mul_le_mul_right _ (by omega))]
    rw [e1, ← e2]
    exact List.take_left

theorem zero55 (w : World) : (zeroValue 55).run Try.prog w = .ok (.agg #[.int .i64 0, .int .i64 0, .slice none 0 0]) w := by
  obtain ⟨i0, hi, hz0, hz1, hz2⟩ := info_parts info55
  simp [zeroValue, typeInfo, hi, hz0]

/-- 'clear' of cells behind the row's end -/
theorem RowAt.cleared {w : World} {q n cap k : Nat} {xs : List Value} (h : RowAt w q n cap xs) (hk : n + (k + 1) ≤ cap) (c : Nat) (ty : TypeId) :
    ∃ w', (Builtin.clear_ #[47] ty #[.slice (some ⟨q, n * 3, none⟩) (k + 1) c]).run Try.prog w = .ok (.tuple #[]) w' ∧ RowAt w' q n cap xs ∧ w.grownBy w' (some q) := by
  obtain ⟨cur, hg, hs, hc, hm, hl, ht⟩ := h
  obtain ⟨lz, hlz⟩ : ∃ lz, (Builtin.zeroCells (#[.int .i64 0, .int .i64 0, .slice none 0 0] : Array Value) (k + 1)).toList = lz := ⟨_, rfl⟩
  have hzl : lz.length = (k + 1) * 3 := by rw [← hlz, Array.length_toList, size_zeroCells]; rfl
  have hz1 : ∀ u ∈ lz, u.oneCell' = true := by
    rw [← hlz]
    intro u hu
    simp only [Builtin.zeroCells, Array.mem_toList_iff, Array.mem_map] at hu
    obtain ⟨j, _, rfl⟩ := hu
    have h3 : j % 3 = 0 ∨ j % 3 = 1 ∨ j % 3 = 2 := by omega
    rcases h3 with h3 | h3 | h3 <;> simp [h3, Value.oneCell']
  have hst := run_storeCells_at Try.prog q (n * 3) 55 lz 0 cur w hg (by rw [hzl, hs]; omega) hz1
  simp only [Nat.add_zero] at hst
  refine ⟨w.setRow q (cur.toList.take (n * 3) ++ lz ++ cur.toList.drop (n * 3 + lz.length)).toArray, ?_, ⟨_, setRow_heap w q cur _ 55 _ hg, ?_, hc, hm, hl, ?_⟩, ⟨rfl, rfl, rfl, by simp [World.setRow], fun k _ hk => setRow_other w q k _ (fun e => hk (by rw [e]))⟩⟩
  · have hrun : (Builtin.clear_ #[47] ty #[.slice (some ⟨q, n * 3, none⟩) (k + 1) c]).run Try.prog w = ((storeCells ⟨q, n * 3, none⟩ lz).run Try.prog w).andThen fun _ w' => .ok (.tuple #[]) w' := by
      simp [Builtin.clear_, run_underlying Try.underlying47, Value.cells, hlz]
    rw [hrun, hst]
    rfl
  · simp only [List.size_toArray, List.length_append, List.length_take, List.length_drop, Array.length_toList, hzl, hs]
    omega
  · have hln : (cur.toList.take (n * 3)).length = n * 3 := by rw [List.length_take, Array.length_toList, hs]; omega
    rw [List.append_assoc]
    have : ((cur.toList.take (n * 3) ++ (lz ++ cur.toList.drop (n * 3 + lz.length))).take (n * 3)) = cur.toList.take (n * 3) := by
      rw [List.take_append_of_le_length (by omega), List.take_take, Nat.min_self]
    rw [← ht]
    exact this

theorem wp_moved {w : World} {o : Oper} {a : Act} {K : Act → World → Prop} {Q : Exit → Act → World → Prop} (s x : Operand) (ho : o.op = .call { callee := .builtin .append, args := #[s, x], argTypes := #[47, 47] })
    {q n cap i j m : Nat} {xs : List Value} (h : RowAt w q n cap xs) (h1 : ∀ u ∈ xs, u.oneCell' = true) (hij : i ≤ j) (hj : j + m = n) (ad : Addr) (ha : m = 0 ∨ ad = ⟨q, j * 3, none⟩) (c : Nat)
    (hs : a.eval s = .slice (some ⟨q, 0, none⟩) i cap) (hx : a.eval x = .slice (some ad) m c)
    (hK : ∀ w', RowAt w' q (i + m) cap (xs.take (i * 3) ++ xs.drop (j * 3)) → w.grownBy w' (some q) → K (a.put o.dst (.slice (some ⟨q, 0, none⟩) (i + m) cap)) w') : o.wp Try.prog a w K Q := by
  obtain ⟨w', hr, h2, h3⟩ := h.moved h1 hij hj ad ha c o.type
  unfold Oper.wp execOp
  simp only [ho, resolve, invoke, builtin, Sem.run_bind, Sem.run_pure, Result.andThen_ok, List.map_toArray, List.map_cons, List.map_nil, hs, hx, hr]
  exact hK w' h2 h3

set_option maxRecDepth 20000 in
set_option maxHeartbeats 400000 in
/-- slices.Delete of one -/
theorem delete_any (q n cap i : Nat) (xs : List Value) (w : World) (h : RowAt w q n cap xs) (h1 : ∀ u ∈ xs, u.oneCell' = true) (hi : i < n) (hn : n ≤ 1000000) :
    Calls Try.prog 24 #[.slice (some ⟨q, 0, none⟩) n cap, .int .i64 i, .int .i64 ((i : Int) + 1)] w fun e w' => e = .returned (.slice (some ⟨q, 0, none⟩) (n - 1) cap) ∧ RowAt w' q (n - 1) cap (xs.take (i * 3) ++ xs.drop ((i + 1) * 3)) ∧ w.grownBy w' (some q) := by
  have hcap : n ≤ cap := by obtain ⟨_, _, _, h, _⟩ := h; exact h
  have HR := Lib.hid h; clear h
  have H1 := Lib.hid h1; clear h1
  have hne : ((i : Int) == (i : Int) + 1) = false := by rw [beq_eq_false_iff_ne]; omega
  have hi1 : (i : Int) + 1 ≤ n := by omega
  have hic : i ≤ cap := by omega
  have h0i : (0 : Int) ≤ (i : Int) + 1 := by omega
  obtain ⟨ad, had, hadd⟩ : ∃ ad : Addr, (if cap = i + 1 then some (⟨q, 0, none⟩ : Addr) else some ⟨q, (i + 1) * 3, none⟩) = some ad ∧ (n - (i + 1) = 0 ∨ ad = ⟨q, (i + 1) * 3, none⟩) := by
    by_cases hce : cap = i + 1
    · exact ⟨⟨q, 0, none⟩, by rw [if_pos hce], .inl (by omega)⟩
    · exact ⟨⟨q, (i + 1) * 3, none⟩, by rw [if_neg hce], .inr rfl⟩
  have HAD := Lib.hid hadd; clear hadd
  go_enter Try.func24, Try.ntmps24
  go_wp2_with fail
  refine wp_region_flow [(0, true), (1, true), (2, true), (3, true), (4, true), (5, true), (6, false), (7, true)] (fun _ => True) (by kernel_rfl) (by kernel_rfl) (fun _ _ _ _ _ h => h) trivial ?_
  iterate 6 (refine flow_take (v := ?_) rfl (by rfl) ?_ ?_; rotate_left 1; (· intro u hu; skip; clear hu; go_simp; try with_reducible rfl); simp only [Act.put, List.getElem_toArray, List.getElem_cons_succ, List.getElem_cons_zero, List.setIfInBounds_toArray, List.set_cons_zero, List.set_cons_succ])
  refine flow_turn rfl (by rfl) (fun K hK => ?_)
  simp only [List.getElem_toArray, List.getElem_cons_succ, List.getElem_cons_zero]
  have HKK := Lib.hid hK; clear hK
  refine wp_moved (w := w.drew) _ _ rfl HR.out H1.out (Nat.le_succ i) (j := i + 1) (m := n - (i + 1)) (by omega) ad HAD.out _ rfl rfl ?_
  intro w1 hr1 hg1
  have hm1 : i + (n - (i + 1)) = n - 1 := by omega
  rw [hm1] at hr1 ⊢
  have HR1 := Lib.hid hr1; clear hr1
  have HG1 : Hid (w.grownBy w1 (some q)) := ⟨hg1.os, hg1.tape, hg1.output, hg1.size, hg1.block⟩
  clear hg1
  refine HKK.out _ _ ⟨fun _ => True, trivial, fun _ h => h, ?_⟩
  clear HKK K
  simp only [Act.put, List.setIfInBounds_toArray, List.set_cons_zero, List.set_cons_succ]
  (refine flow_take (v := ?_) rfl (by rfl) ?_ ?_; rotate_left 1; (· intro u hu; skip; clear hu; go_simp; try with_reducible rfl); simp only [Act.put, List.getElem_toArray, List.getElem_cons_succ, List.getElem_cons_zero, List.setIfInBounds_toArray, List.set_cons_zero])
  refine flow_nil ?_
  obtain ⟨k, hk⟩ : ∃ k, n - 1 = k := ⟨_, rfl⟩
  have hnk : n = k + 1 := by omega
  subst hnk
  have hkk : k + 1 - 1 = k := rfl
  rw [hkk] at HR1 ⊢
  clear hk hkk hm1
  obtain ⟨w2, hcl, hr2, hg2⟩ := HR1.out.cleared (k := 0) hcap (cap - k) 0
  have hcl' : (Builtin.clear_ #[47] 0 #[.slice (some ⟨q, k * 3, none⟩) 1 (cap - k)]).run Try.prog w1 = .ok (.tuple #[]) w2 := hcl
  clear hcl
  have HR2 := Lib.hid hr2; clear hr2
  have HG2 := Lib.hid (Go.World.grownBy.trans HG1.out hg2); clear hg2
  go_wp2_with fail
  go_ret
  exact ⟨rfl, HR2.out, HG2.out⟩
end Go.Proofs.Ytjbcmepnlnfkjaa
