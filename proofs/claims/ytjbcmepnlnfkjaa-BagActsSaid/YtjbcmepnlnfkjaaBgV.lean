/-
  CONTRACTS of the closure of bag.Clear, slices.IndexFunc and slices.DeleteFunc at a row of messages. No condition of its own.
-/
import Derived.Test.YtjbcmepnlnfkjaaBgI
import Derived.IntWalk
namespace Go.Proofs.Ytjbcmepnlnfkjaa
open Go Go.RowKit Go.Proofs

/-- does it go to the node? -/
def toB (node : Int) (x : Msg) : Bool := decide (x.2.1 = node)
/-- those that do not -/
def fm (node : Int) (ms : List Msg) : List Msg := ms.filter fun x => !toB node x
/-- their bytes' values -/
def fv (node : Int) : List Value → List Msg → List Value
  | v :: vs, x :: ms => if toB node x = true then fv node vs ms else v :: fv node vs ms
  | [], _ => []
  | _ :: _, [] => []
theorem fm_append (node : Int) (a b : List Msg) : fm node (a ++ b) = fm node a ++ fm node b := List.filter_append ..
theorem fv_append (node : Int) : ∀ (vs vs' : List Value) (ms ms' : List Msg), ms.length = vs.length → fv node (vs ++ vs') (ms ++ ms') = fv node vs ms ++ fv node vs' ms'
  | [], vs', [], ms', _ => rfl
  | v :: vs, vs', x :: ms, ms', h => by
    simp only [List.cons_append, fv]
    split
    · exact fv_append node vs vs' ms ms' (by simpa using h)
    · rw [fv_append node vs vs' ms ms' (by simpa using h), List.cons_append]
  | [], _, _ :: _, _, h => by simp at h
  | _ :: _, _, [], _, h => by simp at h
theorem fv_length (node : Int) : ∀ (vs : List Value) (ms : List Msg), ms.length = vs.length → (fm node ms).length = (fv node vs ms).length
  | [], [], _ => rfl
  | v :: vs, x :: ms, h => by
    have ih := fv_length node vs ms (by simpa using h)
    unfold fm at ih ⊢
    rw [List.filter_cons]
    simp only [fv]
    cases toB node x <;> simp [ih]
  | [], _ :: _, h => by simp at h
  | _ :: _, [], h => by simp at h
theorem fm_none {node : Int} {ms : List Msg} (h : ∀ x ∈ ms, toB node x = false) : fm node ms = ms := by
  unfold fm
  rw [List.filter_eq_self]
  intro x hx
  rw [h x hx]
  rfl
theorem fv_none {node : Int} : ∀ {vs : List Value} {ms : List Msg}, ms.length = vs.length → (∀ x ∈ ms, toB node x = false) → fv node vs ms = vs
  | [], [], _, _ => rfl
  | v :: vs, x :: ms, h, hx => by
    simp only [fv]
    rw [hx x List.mem_cons_self, if_neg (by simp), fv_none (by simpa using h) (fun y hy => hx y (List.mem_cons_of_mem _ hy))]
  | [], _ :: _, h, _ => by simp at h
  | _ :: _, [], h, _ => by simp at h
theorem Bods.filt {w : World} {P : Nat → Prop} (node : Int) : ∀ {vs : List Value} {ms : List Msg}, Bods w P vs ms → Bods w P (fv node vs ms) (fm node ms)
  | [], [], _ => trivial
  | v :: vs, x :: ms, h => by
    have ih := Bods.filt node h.2
    unfold fm at ih ⊢
    rw [List.filter_cons]
    simp only [fv]
    cases toB node x
    · exact ⟨h.1, ih⟩
    · exact ih
  | [], _ :: _, h => h.elim
  | _ :: _, [], h => h.elim

/-- a cell of the row -/
theorem RowAt.cell {w : World} {q n cap : Nat} {xs : List Value} (h : RowAt w q n cap xs) {p : Nat} {u : Value} (hp : xs[p]? = some u) : w.cell? ⟨q, p, none⟩ = some u := by
  obtain ⟨cur, hg, _, _, _, _, ht⟩ := h
  unfold World.cell?
  simp only [hg]
  rw [← ht, List.getElem?_take] at hp
  split at hp
  · simpa using hp
  · cases hp
theorem RowAt.fz {w : World} {q n cap : Nat} {xs : List Value} (h : RowAt w q n cap xs) (p : Nat) : w.frozen? ⟨q, p, none⟩ = false := by
  obtain ⟨cur, hg, _⟩ := h
  unfold World.frozen?
  simp [hg]
theorem RowAt.lt {w : World} {q n cap : Nat} {xs : List Value} (h : RowAt w q n cap xs) : q < w.heap.size := by
  obtain ⟨cur, hg, _⟩ := h
  exact (Array.getElem?_eq_some_iff.1 hg).1
theorem RowAt.same {w w' : World} {q n cap : Nat} {xs : List Value} (h : RowAt w q n cap xs) (e : w'.heap[q]? = w.heap[q]?) : RowAt w' q n cap xs := by
  obtain ⟨cur, hg, r⟩ := h
  exact ⟨cur, e.trans hg, r⟩
theorem RowAt.stored {w : World} {q n cap : Nat} {xs : List Value} (h : RowAt w q n cap xs) (p : Nat) (v : Value) : RowAt (w.setCell ⟨q, p, none⟩ v) q n cap (xs.set p v) := by
  obtain ⟨cur, hg, hs, hc, hm, hl, ht⟩ := h
  refine ⟨cur.setIfInBounds p v, ?_, by simpa using hs, hc, hm, by simpa using hl, ?_⟩
  · show (w.heap.modify _ _)[q]? = _
    rw [Array.getElem?_modify, if_pos rfl, hg]
    rfl
  · rw [Array.toList_setIfInBounds, ← ht, List.take_set]
theorem RowAt.some_ {w : World} {q n cap : Nat} {xs : List Value} (h : RowAt w q n cap xs) {p : Nat} (hp : p < n * 3) : ∃ u, w.cell? ⟨q, p, none⟩ = some u := by
  have hl : xs.length = n * 3 := by obtain ⟨_, _, _, _, _, hl, _⟩ := h; exact hl
  exact ⟨_, h.cell (List.getElem?_eq_getElem (by omega))⟩
theorem RowAt.short {w : World} {q n cap k : Nat} {xs : List Value} (h : RowAt w q n cap xs) (hk : k ≤ n) : RowAt w q k cap (xs.take (k * 3)) := by
  obtain ⟨cur, hg, hs, hc, hm, hl, ht⟩ := h
  have h3 : k * 3 ≤ n * 3 := Nat.mul_le_mul_right _ hk
  refine ⟨cur, hg, hs, by omega, hm, by rw [List.length_take, hl]; omega, ?_⟩
  rw [← ht, List.take_take, Nat.min_eq_left h3]

/-- the closure of Clear -/
theorem clos_any (q : Nat) (node f t : Int) (v : Value) (w : World) (hc : w.cell? ⟨q, 0, none⟩ = some (.int .i64 node)) (_hv : v.oneCell' = true) :
    Calls Try.prog 28 #[.agg #[.int .i64 f, .int .i64 t, v], .pointer (some ⟨q, 0, none⟩)] w fun e w' => e = .returned (.bool (toB node (f, t, []))) ∧ Below w.heap.size w w' := by
  have HB : Hid (Below w.heap.size w (w.alloc (.cells #[.int .i64 f, .int .i64 t, v] 55))) := (Below.refl _ _).alloc (Nat.le_refl _) _
  have hc' := (HB.out.cell (p := ⟨q, 0, none⟩) (World.block_lt_of_cell? w _ hc)).trans hc
  go_enter Try.func28, Try.ntmps28
  go_wp2_with fail
  go_ret
  refine ⟨ret_eq (congrArg Value.bool ?_), HB.out⟩
  unfold toB
  by_cases e : t = node <;> simp [e]

/-- what IndexFunc leaves -/
def IdxOut (ms : List Msg) (node : Int) (w : World) (e : Ending) (w' : World) : Prop :=
  Below w.heap.size w w' ∧ ((e = .returned (.int .i64 (-1)) ∧ ∀ x ∈ ms, toB node x = false) ∨ ∃ (i : Nat) (x : Msg), ms[i]? = some x ∧ toB node x = true ∧ e = .returned (.int .i64 i) ∧ ∀ x ∈ ms.take i, toB node x = false)

set_option maxRecDepth 8000 in
set_option maxHeartbeats 800000 in
/-- slices.IndexFunc -/
theorem index_any (P : Nat → Prop) (q n cap : Nat) (ms : List Msg) (vs : List Value) (qn : Nat) (node : Int) (w : World) (h : RowAt w q n cap (flat3 ms vs)) (hb : Bods w P vs ms) (hn : ms.length = n) (hl : n ≤ 1000000) (hc : w.cell? ⟨qn, 0, none⟩ = some (.int .i64 node)) :
    Calls Try.prog 29 #[.slice (some ⟨q, 0, none⟩) n cap, .func (.func 28) #[] #[.pointer (some ⟨qn, 0, none⟩)]] w (IdxOut ms node w) := by
  have HR := Lib.hid h; clear h
  have HV := Lib.hid hb.length
  have HBD := Lib.hid hb; clear hb
  have HN := Lib.hid hn; clear hn
  have HC := Lib.hid hc; clear hc
  go_enter Try.func29, Try.ntmps29
  go_wp2_with fail
  go_loopw [8] (fun y wr => ∃ i : Nat, y = .int .i64 i ∧ i ≤ n ∧ (∀ x ∈ ms.take i, toB node x = false) ∧ Below w.heap.size w wr) (fun y _ => n - (intOf y).toNat)
  case atStart => exact ⟨0, rfl, Nat.zero_le _, by simp, Below.refl _ _⟩
  case round =>
    obtain ⟨i, rfl, hin, hno, hb⟩ := hrel
    have HNO := Lib.hid hno; clear hno
    have HB := Lib.hid hb; clear hb
    by_cases hlt : i < n
    · have hi : i < ms.length := by rw [HN.out]; exact hlt
      have hiv : i < vs.length := by rw [← HV.out]; exact hi
      obtain ⟨f0, f1, f2⟩ := flat3_at ms vs i hi hiv
      obtain ⟨A, c, hv, _⟩ := HBD.out.at_ i hi
      rw [hv] at f2
      have q0 := (HB.out.cell (p := ⟨q, i * 3, none⟩) HR.out.lt).trans (HR.out.cell f0)
      have q1 := (HB.out.cell (p := ⟨q, i * 3 + 1, none⟩) HR.out.lt).trans (HR.out.cell f1)
      have q2 := (HB.out.cell (p := ⟨q, i * 3 + 2, none⟩) HR.out.lt).trans (HR.out.cell f2)
      have HSN : Hid (ms.take (i + 1) = ms.take i ++ [ms[i]]) := List.take_succ_eq_append_getElem hi
      have HIM : Hid (ms[i]? = some ms[i]) := List.getElem?_eq_getElem hi
      have hcl := (HB.out.cell (p := ⟨qn, 0, none⟩) (World.block_lt_of_cell? w _ HC.out)).trans HC.out
      have HCL := Lib.hid (fun (u : World) (hu : Below wr.heap.size wr u) => clos_any qn node ms[i].1 ms[i].2.1 (.slice A ms[i].2.2.length c) u ((hu.cell (p := ⟨qn, 0, none⟩) (World.block_lt_of_cell? wr _ hcl)).trans hcl) rfl)
      have HTB : Hid (toB node (ms[i].1, ms[i].2.1, []) = toB node ms[i]) := rfl
      clear f0 f1 f2 hv hcl
      generalize ms[i] = x at *
      clear hi hiv
      obtain ⟨xf, xt, xb⟩ := x
      simp only at q0 q1 q2 HCL
      go_wp2_with fail
      refine (HCL.out wr (Below.refl _ _)).mono ?_
      rintro e w1 ⟨rfl, hb1⟩
      have HB1 := Lib.hid (HB.out.trans (hb1.mono HB.out.size))
      clear hb1 q0 q1 q2
      obtain ⟨β, hβ⟩ : ∃ β, toB node (xf, xt, []) = β := ⟨_, rfl⟩
      rw [hβ]
      have HBE := Lib.hid hβ
      clear hβ HCL
      cases β
      · go_wp2_with fail
        go_roundw
        case rel =>
          refine ⟨i + 1, by go_num, by omega, fun x hx => ?_, HB1.out⟩
          rw [HSN.out] at hx
          rcases List.mem_append.1 hx with hx | hx
          · exact HNO.out x hx
          · have : x = (xf, xt, xb) := by simpa using hx
            rw [this, ← HTB.out, HBE.out]
        case measure => simp [intOf]; omega
      · go_wp2_with fail
        go_ret
        exact ⟨HB1.out, .inr ⟨i, _, HIM.out, by rw [← HTB.out, HBE.out], rfl, HNO.out⟩⟩
    · go_wp2_with fail
      go_ret
      exact ⟨HB.out, .inl ⟨rfl, fun x hx => HNO.out x (by rw [List.take_of_length_le (by have := HN.out; omega)]; exact hx)⟩⟩

/-- DeleteFunc's state, j messages seen, k kept -/
def DelSt (q n cap : Nat) (ms : List Msg) (vs : List Value) (node : Int) (w : World) (k j : Nat) (u : World) : Prop :=
  k < j ∧ j ≤ n ∧ k = (fm node (ms.take j)).length ∧ w.grownBy u (some q) ∧
    ∃ xs, RowAt u q n cap xs ∧ xs.take (k * 3) = flat3 (fm node (ms.take j)) (fv node (vs.take j) (ms.take j)) ∧ xs.drop (j * 3) = (flat3 ms vs).drop (j * 3)
/-- what DeleteFunc leaves -/
def DelF (q cap : Nat) (ms : List Msg) (vs : List Value) (node : Int) (w : World) (e : Ending) (w' : World) : Prop :=
  e = .returned (.slice (some ⟨q, 0, none⟩) (fm node ms).length cap) ∧ RowAt w' q (fm node ms).length cap (flat3 (fm node ms) (fv node vs ms)) ∧ w.grownBy w' (some q)

theorem grownBy_below {w u u' : World} {row : Option Nat} (h : w.grownBy u row) (hb : Below u.heap.size u u') : w.grownBy u' row := by
  have hx := h
  exact Go.World.grownBy.trans hx ⟨hb.os, hb.tape, hb.output, hb.size, fun k hk _ => hb.block k hk⟩

theorem grownBy_set {w u : World} {q : Nat} (h : w.grownBy u (some q)) (p : Nat) (v : Value) : w.grownBy (u.setCell ⟨q, p, none⟩ v) (some q) :=
  ⟨h.os, h.tape, h.output, by simpa [World.setCell] using h.size, fun k hk hne => (setCell_other v (fun e => hne (by rw [e]))).trans (h.block k hk hne)⟩
theorem set_three (a b c : Value) : ∀ (p : Nat) (xs : List Value), p + 2 < xs.length → ((xs.set p a).set (p + 1) b).set (p + 2) c = xs.take p ++ a :: b :: c :: xs.drop (p + 3)
  | 0, _ :: _ :: _ :: _, _ => rfl
  | p + 1, _ :: xs, h => by
    have := set_three a b c p xs (by simp only [List.length_cons] at h; omega)
    simp [this]
  | 0, [], h => by simp at h
  | 0, [_], h => by simp at h
  | 0, [_, _], h => by simp at h
  | _ + 1, [], h => by simp at h
theorem DelSt.kept {q n cap : Nat} {ms : List Msg} {vs : List Value} {node : Int} {w u : World} {k j : Nat} {xs : List Value} {x : Msg} {v : Value} (hkj : k < j) (hjn : j < n) (hk : k = (fm node (ms.take j)).length) (hv : ms.length = vs.length)
    (htk : xs.take (k * 3) = flat3 (fm node (ms.take j)) (fv node (vs.take j) (ms.take j))) (hdr : xs.drop (j * 3) = (flat3 ms vs).drop (j * 3)) (hx : ms[j]? = some x) (hvj : vs[j]? = some v) (ht : toB node x = false)
    (hg : w.grownBy u (some q)) (hl : xs.length = n * 3) (hr : RowAt u q n cap (((xs.set (k * 3) (.int .i64 x.1)).set (k * 3 + 1) (.int .i64 x.2.1)).set (k * 3 + 2) v)) : DelSt q n cap ms vs node w (k + 1) (j + 1) u := by
  have e1 : ms.take (j + 1) = ms.take j ++ [x] := by rw [List.take_add_one, hx]; rfl
  have e2 : vs.take (j + 1) = vs.take j ++ [v] := by rw [List.take_add_one, hvj]; rfl
  have hl2 : (ms.take j).length = (vs.take j).length := by rw [List.length_take, List.length_take, hv]
  have e3 : fm node (ms.take (j + 1)) = fm node (ms.take j) ++ [x] := by
    rw [e1, fm_append]
    congr 1
    unfold fm
    simp [ht]
  have e4 : fv node (vs.take (j + 1)) (ms.take (j + 1)) = fv node (vs.take j) (ms.take j) ++ [v] := by
    rw [e1, e2, fv_append _ _ _ _ _ hl2]
    congr 1
    simp [fv, ht]
  refine ⟨by omega, hjn, by rw [e3, List.length_append, ← hk]; rfl, hg, _, hr, ?_, ?_⟩
  · rw [set_three _ _ _ _ _ (by rw [hl]; omega), e3, e4, flat3_append _ _ _ _ (fv_length _ _ _ hl2), ← htk]
    have hlk : (xs.take (k * 3)).length = k * 3 := by rw [List.length_take, hl]; omega
    rw [show (k + 1) * 3 = (xs.take (k * 3)).length + 3 by rw [hlk]; omega, List.take_length_add_append]
    rfl
  · rw [List.drop_set_of_lt (by omega), List.drop_set_of_lt (by omega), List.drop_set_of_lt (by omega)]
    have := congrArg (List.drop 3) hdr
    rw [List.drop_drop, List.drop_drop] at this
    rwa [show (j + 1) * 3 = j * 3 + 3 by omega]
theorem DelSt.skip {q n cap : Nat} {ms : List Msg} {vs : List Value} {node : Int} {w u : World} {k j : Nat} {xs : List Value} {x : Msg} {v : Value} (hkj : k < j) (hjn : j < n) (hk : k = (fm node (ms.take j)).length) (hv : ms.length = vs.length)
    (htk : xs.take (k * 3) = flat3 (fm node (ms.take j)) (fv node (vs.take j) (ms.take j))) (hdr : xs.drop (j * 3) = (flat3 ms vs).drop (j * 3)) (hx : ms[j]? = some x) (hvj : vs[j]? = some v) (ht : toB node x = true)
    (hg : w.grownBy u (some q)) (hr : RowAt u q n cap xs) : DelSt q n cap ms vs node w k (j + 1) u := by
  have e1 : ms.take (j + 1) = ms.take j ++ [x] := by rw [List.take_add_one, hx]; rfl
  have e2 : vs.take (j + 1) = vs.take j ++ [v] := by rw [List.take_add_one, hvj]; rfl
  have hl2 : (ms.take j).length = (vs.take j).length := by rw [List.length_take, List.length_take, hv]
  have e3 : fm node (ms.take (j + 1)) = fm node (ms.take j) := by
    rw [e1, fm_append]
    unfold fm
    simp [ht]
  have e4 : fv node (vs.take (j + 1)) (ms.take (j + 1)) = fv node (vs.take j) (ms.take j) := by
    rw [e1, e2, fv_append _ _ _ _ _ hl2]
    simp [fv, ht]
  refine ⟨by omega, hjn, by rw [e3]; exact hk, hg, _, hr, by rw [e3, e4]; exact htk, ?_⟩
  have := congrArg (List.drop 3) hdr
  rw [List.drop_drop, List.drop_drop] at this
  rwa [show (j + 1) * 3 = j * 3 + 3 by omega]

set_option maxRecDepth 8000 in
set_option maxHeartbeats 1600000 in
/-- slices.DeleteFunc -/
theorem delfunc_any (P : Nat → Prop) (q n cap : Nat) (ms : List Msg) (vs : List Value) (qn : Nat) (node : Int) (w : World) (h : RowAt w q n cap (flat3 ms vs)) (hb : Bods w P vs ms) (hn : ms.length = n) (hl : n ≤ 1000000) (hc : w.cell? ⟨qn, 0, none⟩ = some (.int .i64 node)) (hqn : qn ≠ q) :
    Calls Try.prog 27 #[.slice (some ⟨q, 0, none⟩) n cap, .func (.func 28) #[] #[.pointer (some ⟨qn, 0, none⟩)]] w (DelF q cap ms vs node w) := by
  have HV := Lib.hid hb.length
  have HIX := Lib.hid (index_any P q n cap ms vs qn node w h hb hn hl hc)
  have hcap : n ≤ cap := by obtain ⟨_, _, _, h, _⟩ := h; exact h
  have HR := Lib.hid h; clear h
  have HBD := Lib.hid hb; clear hb
  have HN := Lib.hid hn; clear hn
  have HC := Lib.hid hc; clear hc
  have HQN := Lib.hid hqn; clear hqn
  go_enter Try.func27, Try.ntmps27
  go_wp2_with fail
  refine HIX.out.mono ?_
  rintro e w1 ⟨hb1, ⟨rfl, hno⟩ | ⟨i, x0, hx0, htb, rfl, hno⟩⟩
  · have HB1 := Lib.hid hb1
    have HNO := Lib.hid hno
    clear hb1 hno
    go_wp2_with fail
    go_ret
    refine ⟨by rw [fm_none HNO.out, HN.out]; rfl, ?_, ⟨HB1.out.os, HB1.out.tape, HB1.out.output, HB1.out.size, fun k hk _ => HB1.out.block k hk⟩⟩
    rw [fm_none HNO.out, fv_none HV.out HNO.out, HN.out]
    exact HR.out.same (HB1.out.block q HR.out.lt)
  · have hi : i < ms.length := (List.getElem?_eq_some_iff.1 hx0).1
    have hin : i < n := by rw [← HN.out]; exact hi
    have HST : Hid (DelSt q n cap ms vs node w i (i + 1) w1) := by
      have hiv : i < vs.length := by rw [← HV.out]; exact hi
      have hxi : ms[i] = x0 := by rw [List.getElem?_eq_getElem hi] at hx0; injection hx0
      have e1 : ms.take (i + 1) = ms.take i ++ [x0] := by rw [List.take_succ_eq_append_getElem hi, hxi]
      have e2 : vs.take (i + 1) = vs.take i ++ [vs[i]] := List.take_succ_eq_append_getElem hiv
      have e3 : fm node (ms.take (i + 1)) = ms.take i := by
        rw [e1, fm_append, fm_none hno]
        unfold fm
        simp [htb]
      have hl2 : (ms.take i).length = (vs.take i).length := by rw [List.length_take, List.length_take, HV.out]
      have e4 : fv node (vs.take (i + 1)) (ms.take (i + 1)) = vs.take i := by
        rw [e1, e2, fv_append _ _ _ _ _ hl2, fv_none hl2 hno]
        simp [fv, htb]
      refine ⟨Nat.lt_succ_self _, hin, by rw [e3, List.length_take]; omega, ⟨hb1.os, hb1.tape, hb1.output, hb1.size, fun k hk _ => hb1.block k hk⟩, _, HR.out.same (hb1.block q HR.out.lt), ?_, rfl⟩
      rw [e3, e4, flat3_take]
    have hi0 : (i : Int) ≠ -1 := by omega
    have hi1 : ((i : Int) == -1) = false := by rw [beq_eq_false_iff_ne]; omega
    have wr1 : IntKind.i64.wrap ((i : Int) + 1) = (i : Int) + 1 := IntWalk.i64_in _ (by omega)
    clear hx0 htb hno hb1 hi
    go_wp2_with fail
    clear wr1
    go_loopw [5, 6] (fun y z wr => ∃ k j : Nat, y = .int .i64 k ∧ z = .int .i64 j ∧ DelSt q n cap ms vs node w k j wr) (fun _ z _ => n - (intOf z).toNat)
    case atStart => exact ⟨i, i + 1, rfl, by go_num, HST.out⟩
    case round =>
      clear HST hi0 hi1 hin
      obtain ⟨k, j, rfl, rfl, hst⟩ := hrel
      obtain ⟨hkj, hjn, hk, hg, xs, hrow, htk, hdr⟩ := hst
      have HK := Lib.hid hk; clear hk
      have HG := Lib.hid hg; clear hg
      have HROW := Lib.hid hrow; clear hrow
      have HTK := Lib.hid htk; clear htk
      have HDR := Lib.hid hdr; clear hdr
      by_cases hlt : j < n
      · have hi : j < ms.length := by rw [HN.out]; exact hlt
        have hiv : j < vs.length := by rw [← HV.out]; exact hi
        obtain ⟨f0, f1, f2⟩ := flat3_at ms vs j hi hiv
        obtain ⟨A, c, hv, _⟩ := HBD.out.at_ j hi
        have HVJ : Hid (vs[j]? = some (.slice A ms[j].2.2.length c)) := hv
        rw [hv] at f2
        have g0 : xs[j * 3]? = some (.int .i64 ms[j].1) := by
          have := congrArg (fun l : List Value => l[0]?) HDR.out
          simp only [List.getElem?_drop, Nat.add_zero] at this
          exact this.trans f0
        have g1 : xs[j * 3 + 1]? = some (.int .i64 ms[j].2.1) := by
          have := congrArg (fun l : List Value => l[1]?) HDR.out
          simp only [List.getElem?_drop] at this
          exact this.trans f1
        have g2 : xs[j * 3 + 2]? = some (.slice A ms[j].2.2.length c) := by
          have := congrArg (fun l : List Value => l[2]?) HDR.out
          simp only [List.getElem?_drop] at this
          exact this.trans f2
        have q0 := HROW.out.cell g0
        have q1 := HROW.out.cell g1
        have q2 := HROW.out.cell g2
        have HXJ : Hid (ms[j]? = some ms[j]) := List.getElem?_eq_getElem hi
        have HTB : Hid (toB node (ms[j].1, ms[j].2.1, []) = toB node ms[j]) := rfl
        clear f0 f1 f2 hv g0 g1 g2
        generalize ms[j] = x at *
        clear hi hiv
        obtain ⟨xf, xt, xb⟩ := x
        simp only at q0 q1 q2
        go_wp2_with fail
        have HB1 : Hid (Below wr.heap.size wr (wr.alloc (.cells #[.int .i64 xf, .int .i64 xt, .slice A xb.length c] 55))) := (Below.refl _ _).alloc (Nat.le_refl _) _
        have k0 : (wr.alloc (.cells #[.int .i64 xf, .int .i64 xt, .slice A xb.length c] 55)).cell? ⟨wr.heap.size, 0, none⟩ = some (.int .i64 xf) := by simp
        have k1 : (wr.alloc (.cells #[.int .i64 xf, .int .i64 xt, .slice A xb.length c] 55)).cell? ⟨wr.heap.size, 1, none⟩ = some (.int .i64 xt) := by simp
        have k2 : (wr.alloc (.cells #[.int .i64 xf, .int .i64 xt, .slice A xb.length c] 55)).cell? ⟨wr.heap.size, 2, none⟩ = some (.slice A xb.length c) := by simp
        clear q0 q1 q2
        generalize wr.alloc (.cells #[.int .i64 xf, .int .i64 xt, .slice A xb.length c] 55) = w2 at *
        have HG2 := Lib.hid (grownBy_below HG.out HB1.out)
        have HROW2 := Lib.hid (HROW.out.same (HB1.out.block q HROW.out.lt))
        have hcl : w2.cell? ⟨qn, 0, none⟩ = some (.int .i64 node) := by
          have hlt' := World.block_lt_of_cell? w _ HC.out
          have e := HG2.out.block qn hlt' (fun e => HQN.out (Option.some.inj e))
          have h0 := HC.out
          unfold World.cell? at h0 ⊢
          simp only at h0 ⊢
          rw [e]
          exact h0
        refine (clos_any qn node xf xt (.slice A xb.length c) w2 hcl rfl).mono ?_
        rintro e w3 ⟨rfl, hb3⟩
        have HG3 := Lib.hid (grownBy_below HG2.out hb3)
        have HROW3 := Lib.hid (HROW2.out.same (hb3.block q HROW2.out.lt))
        have hqb := World.block_lt_of_cell? w2 _ k0
        have l0 := (hb3.cell (p := ⟨wr.heap.size, 0, none⟩) hqb).trans k0
        have l1 := (hb3.cell (p := ⟨wr.heap.size, 1, none⟩) hqb).trans k1
        have l2 := (hb3.cell (p := ⟨wr.heap.size, 2, none⟩) hqb).trans k2
        clear hb3 k0 k1 k2 hqb hcl
        generalize wr.heap.size = qb at *
        obtain ⟨β, hβ⟩ : ∃ β, toB node (xf, xt, []) = β := ⟨_, rfl⟩
        rw [hβ]
        have HBE := Lib.hid hβ
        clear hβ
        cases β
        · have HP3 : Hid (k * 3 + 2 < n * 3) := by show k * 3 + 2 < n * 3; omega
          obtain ⟨x0', e0⟩ := HROW3.out.some_ (p := k * 3) (by have := HP3.out; omega)
          have r1 := HROW3.out.stored (k * 3) (.int .i64 xf)
          obtain ⟨x1', e1⟩ := r1.some_ (p := k * 3 + 1) (by have := HP3.out; omega)
          have r2 := r1.stored (k * 3 + 1) (.int .i64 xt)
          obtain ⟨x2', e2⟩ := r2.some_ (p := k * 3 + 2) HP3.out
          obtain ⟨y1', e1'⟩ := HROW3.out.some_ (p := k * 3 + 1) (by have := HP3.out; omega)
          obtain ⟨y2', e2'⟩ := HROW3.out.some_ (p := k * 3 + 2) HP3.out
          have HR3 := Lib.hid (r2.stored (k * 3 + 2) (.slice A xb.length c))
          have s0 := HROW3.out.fz (k * 3)
          have s1 := r1.fz (k * 3 + 1)
          have s2 := r2.fz (k * 3 + 2)
          have s1' := HROW3.out.fz (k * 3 + 1)
          have s2' := HROW3.out.fz (k * 3 + 2)
          have wr1 : IntKind.i64.wrap ((k : Int) + 1) = (k : Int) + 1 := IntWalk.i64_in _ (by omega)
          clear r1 r2
          go_wp2_with fail
          clear wr1
          go_roundw
          case rel =>
            refine ⟨k + 1, j + 1, by go_num, by go_num, DelSt.kept (x := (xf, xt, xb)) hkj hlt HK.out HV.out HTK.out HDR.out HXJ.out HVJ.out (by rw [← HTB.out, HBE.out]) (grownBy_set (grownBy_set (grownBy_set HG3.out _ _) _ _) _ _) ?_ HR3.out⟩
            obtain ⟨_, _, _, _, _, hl, _⟩ := HROW.out
            exact hl
          case measure => simp [intOf]; omega
        · go_wp2_with fail
          go_roundw
          case rel => exact ⟨k, j + 1, rfl, by go_num, DelSt.skip (x := (xf, xt, xb)) hkj hlt HK.out HV.out HTK.out HDR.out HXJ.out HVJ.out (by rw [← HTB.out, HBE.out]) HG3.out HROW3.out⟩
          case measure => simp [intOf]; omega
      · have hjn' : j = n := by omega
        subst hjn'
        have hck : ¬ cap = k := by omega
        have hkc : k ≤ cap := by omega
        have hkn : k ≤ j := by omega
        have HSH := Lib.hid (HROW.out.short hkn)
        obtain ⟨d, hd⟩ : ∃ d, j - k = d + 1 := ⟨j - k - 1, by omega⟩
        obtain ⟨w2, hcl, hr2, hg2⟩ := HSH.out.cleared (k := d) (by omega) (cap - k) 0
        rw [← hd] at hcl
        have HR2 := Lib.hid hr2
        have HG2 := Lib.hid (Go.World.grownBy.trans HG.out hg2)
        clear hr2 hg2 hd
        go_wp2_with fail
        go_ret
        have e1 : ms.take j = ms := List.take_of_length_le (by have := HN.out; omega)
        have e2 : vs.take j = vs := List.take_of_length_le (by have := HN.out; have := HV.out; omega)
        have hk := HK.out
        have htk := HTK.out
        rw [e1] at hk htk
        rw [e2] at htk
        refine ⟨by rw [← hk]; rfl, ?_, HG2.out⟩
        rw [← htk, ← hk]
        exact HR2.out
end Go.Proofs.Ytjbcmepnlnfkjaa
