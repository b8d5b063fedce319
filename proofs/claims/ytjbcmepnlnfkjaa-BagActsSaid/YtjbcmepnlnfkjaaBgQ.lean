/-
  THE ACTS THAT A LAW IS HANDED, as they lie in memory (ActsW); A BAG BESIDE A MAP OF COUNTS (StW): how they stay. No condition of its own.
-/
import Derived.Test.YtjbcmepnlnfkjaaBgP
namespace Go.Proofs.Ytjbcmepnlnfkjaa
open Go Go.RowKit Go.Proofs

/-- an act: what is done, two numbers, bytes -/
structure ActV where
  d : Int
  a : Int
  b : Int
  A : Option Addr
  c : Nat
  l : List UInt8
/-- one act at an address -/
def ActW (w : World) (b o : Nat) (x : ActV) : Prop :=
  w.cell? ⟨b, o, none⟩ = some (.int .i64 x.d) ∧ w.cell? ⟨b, o + 1, none⟩ = some (.int .i64 x.a) ∧ w.cell? ⟨b, o + 2, none⟩ = some (.int .i64 x.b) ∧ w.cell? ⟨b, o + 3, none⟩ = some (.slice x.A x.l.length x.c)
def ActOk (w : World) (x : ActV) : Prop := InI64 x.a ∧ InI64 x.b ∧ x.l.length ≤ 140737488355328 ∧ Bytes w x.A x.l
/-- the slice '.slice A n c', n the list's length, reads as these acts -/
def ActsW (w : World) (A : Option Addr) (l : List ActV) : Prop :=
  0 < l.length → ∃ b off, A = some ⟨b, off, none⟩ ∧ ∀ j (h : j < l.length), ActW w b (off + j * 4) l[j] ∧ ActOk w l[j]
theorem ActsW.at_ {w w' : World} {A : Option Addr} {l : List ActV} (h : ActsW w A l) (hb : Below w.heap.size w w') {j : Nat} (hj : j < l.length) : ∃ b off, A = some ⟨b, off, none⟩ ∧ ActW w' b (off + j * 4) l[j] ∧ ActOk w l[j] := by
  obtain ⟨b, off, e, hc⟩ := h (by omega)
  obtain ⟨⟨h0, h1, h2, h3⟩, k0, k1, k2, k3⟩ := hc j hj
  have kp : ∀ (o : Nat) (v : Value), w.cell? ⟨b, o, none⟩ = some v → w'.cell? ⟨b, o, none⟩ = some v := fun o v h => (hb.cell (p := ⟨b, o, none⟩) (World.block_lt_of_cell? w _ h)).trans h
  exact ⟨b, off, e, ⟨kp _ _ h0, kp _ _ h1, kp _ _ h2, kp _ _ h3⟩, k0, k1, k2, k3⟩

def none_ (_ _ : Int) : Bool := false
def Any (_ : Nat) : Prop := True

/-- the bag at g with its map m, beside the map of counts ml: messages ms, counts F (at most n of them) -/
structure StW (w0 : World) (g m ml n : Nat) (ms : List Msg) (F : Msg → Int) (u : World) : Prop where
  bag : BagAt u w0.heap.size Any g m ms
  pm : PMap u m 0 none_
  lm : LMap u ml n F
  ne : ml ≠ m
  hml : w0.heap.size ≤ ml
  below : Below w0.heap.size w0 u
section
variable {w0 u u' : World} {g m ml n : Nat} {ms ms' : List Msg} {F : Msg → Int}
theorem StW.size (h : StW w0 g m ml n ms F u) : w0.heap.size ≤ u.heap.size := h.below.size
theorem StW.step (h : StW w0 g m ml n ms F u) (hb : Below u.heap.size u u') : StW w0 g m ml n ms F u' :=
  ⟨h.bag.below hb, h.pm.below hb, h.lm.below hb, h.ne, h.hml, h.below.trans (hb.mono h.size)⟩
theorem StW.drew (h : StW w0 g m ml n ms F u) : StW w0 g m ml n ms F u.drew := h.step (Below.refl _ _).drew
theorem StW.turned (h : StW w0 g m ml n ms F u) (ht : Turned u w0.heap.size Any g m ms' u') : StW w0 g m ml n ms' F u' := by
  refine ⟨ht.1, h.pm.same ht.2.2.2, h.lm.same (ht.2.2.1.block ml h.lm.lt h.ne (fun c fr => ?_)), h.ne, h.hml, h.below.trans ht.2.1⟩
  obtain ⟨es, cl, hm⟩ := h.lm.isMp
  rw [hm]
  exact ⟨(by intro e; injection e with e; cases e), (by intro e; injection e with e; cases e)⟩
theorem StW.grown (h : StW w0 g m ml n ms F u) {n' : Nat} {F' : Msg → Int} (hg : u.grownBy u' (some ml)) (hl : LMap u' ml n' F') : StW w0 g m ml n' ms F' u' := by
  obtain ⟨es, cl, hm⟩ := h.lm.isMp
  refine ⟨h.bag.other (fun k c t fr hk _ => ?_), h.pm.same (hg.block m h.pm.lt (fun e => ?_)), hl, h.ne, h.hml, ?_⟩
  · refine hg.block k (Array.getElem?_eq_some_iff.1 hk).1 (fun e => ?_)
    injection e with e
    rw [e, hm] at hk
    cases hk
  · injection e with e
    exact h.ne e.symm
  · exact h.below.grown hg h.size (fun q hq => by injection hq with hq; rw [← hq]; exact h.hml)
theorem cell_other {a : Nat} (hg : u.grownBy u' (some a)) (hm : IsMp u a) {p : Addr} {v : Value} (h : u.cell? p = some v) : u'.cell? p = some v := by
  obtain ⟨es, cl, hm⟩ := hm
  have hlt := World.block_lt_of_cell? u _ h
  have hne : p.block ≠ a := by
    intro e
    unfold World.cell? at h
    rw [e, hm] at h
    cases h
  have e := hg.block p.block hlt (fun e => hne (Option.some.inj e))
  unfold World.cell? at h ⊢
  rw [e]
  exact h
/-- a count turned, in its two steps -/
theorem StW.bump (h : StW w0 g m ml n ms F u) (hn : n < maxLen) {x : Msg} (hx : MOk x) :
    ∃ (st : Nat) (u1 : World), (Instr.mapEntry 25 (.map (some ml)) (mkey x)).run Try.prog u = .ok (.tuple #[.int .i64 (F x), goInt st]) u1 ∧ u.grownBy u1 (some ml) ∧ StW w0 g m ml (n + 1) ms F u1 ∧
      ∀ (a : Int), InI64 a → ∃ u2, (Instr.entryStore 25 (.map (some ml)) (goInt st) (.int .i64 a)).run Try.prog u1 = .ok () u2 ∧ StW w0 g m ml (n + 1) ms (upd F x a) u2 := by
  obtain ⟨st, u1, h1, h2, h3, h4⟩ := h.lm.bump hn hx
  refine ⟨st, u1, h1, h2, h.grown h2 h3, fun a ha => ?_⟩
  obtain ⟨u2, k1, k2, k3⟩ := h4 u1 a rfl (wf_i64 ha)
  exact ⟨u2, k1, (h.grown h2 h3).grown k3 k2⟩
end

theorem cell_turned {u u' : World} {B : Nat} {P : Nat → Prop} {g m : Nat} {ms : List Msg} (ht : Turned u B P g m ms u') (hm : IsMp u m) {b : Nat} {o : Nat} {v : Value} {cs : Array Value} {t : TypeId} {fr : Nat × Nat} (hb : u.heap[b]? = some (.cells cs t fr)) (h50 : t ≠ 50) (h55 : t ≠ 55) (h : u.cell? ⟨b, o, none⟩ = some v) : u'.cell? ⟨b, o, none⟩ = some v := by
  have hlt := (Array.getElem?_eq_some_iff.1 hb).1
  have e := ht.2.2.1.block b hlt (fun e => ?_) (fun c fr' => ⟨fun e => ?_, fun e => ?_⟩)
  · unfold World.cell? at h ⊢
    simp only at h ⊢
    rw [e]
    exact h
  · obtain ⟨es, cl, hm⟩ := hm
    rw [e, hm] at hb
    cases hb
  · rw [hb] at e
    injection e with e
    injection e with _ e _
    exact h50 e
  · rw [hb] at e
    injection e with e
    injection e with _ e _
    exact h55 e
theorem own5_grown {u u' : World} {a base n : Nat} {v : Value} {xs : List Value} (h : u.ownsRow base 5 1 v n xs) (hg : u.grownBy u' (some a)) (hm : IsMp u a) : u'.ownsRow base 5 1 v n xs := by
  refine ⟨h.1, ?_⟩
  rcases h.2 with h0 | ⟨q, cap, cur, e, hq, hgq, r⟩
  · exact .inl h0
  · refine .inr ⟨q, cap, cur, e, hq, (hg.block q (Array.getElem?_eq_some_iff.1 hgq).1 (fun e => ?_)).trans hgq, r⟩
    obtain ⟨es, cl, hm⟩ := hm
    injection e with e
    rw [e, hm] at hgq
    cases hgq

/-- what the counts are good for, behind i acts -/
structure Cnt (i : Nat) (ms : List Msg) (F : Msg → Int) : Prop where
  len : ms.length ≤ i
  le : ∀ x, (ms.count x : Int) ≤ F x
  up : ∀ x, F x ≤ i
theorem Cnt.start : Cnt 0 [] (fun _ => 0) := ⟨by simp, fun x => by simp, fun x => by simp⟩
theorem Cnt.next {i : Nat} {ms : List Msg} {F : Msg → Int} (h : Cnt i ms F) : Cnt (i + 1) ms F := ⟨by have := h.len; omega, h.le, fun x => by have := h.up x; omega⟩
theorem Cnt.more {i : Nat} {ms : List Msg} {F : Msg → Int} (h : Cnt i ms F) (x : Msg) : Cnt (i + 1) (ms ++ [x]) (upd F x (F x + 1)) := by
  refine ⟨by have := h.len; simp; omega, fun y => ?_, fun y => ?_⟩
  · rw [List.count_append]
    have := h.le y
    by_cases e : y = x
    · subst e
      rw [upd_same]
      simp
      omega
    · rw [upd_other e]
      have h0 : List.count y [x] = 0 := by simp [List.count_cons, List.count_nil]; exact fun h => e h.symm
      rw [h0]
      omega
  · have := h.up y
    by_cases e : y = x
    · subst e
      rw [upd_same]
      omega
    · rw [upd_other e]
      omega
theorem count_out (ms : List Msg) (k : Nat) (hk : k < ms.length) (y : Msg) : (ms.take k ++ ms.drop (k + 1)).count y + (if y = ms[k] then 1 else 0) = ms.count y := by
  have e : ms = ms.take k ++ ms[k] :: ms.drop (k + 1) := by rw [List.getElem_cons_drop]; exact (List.take_append_drop k ms).symm
  have h2 : ms.count y = (ms.take k).count y + ((ms.drop (k + 1)).count y + if ms[k] == y then 1 else 0) := by
    conv => lhs; rw [e]
    rw [List.count_append, List.count_cons]
  rw [h2, List.count_append]
  by_cases h : y = ms[k]
  · rw [if_pos h, if_pos (by rw [h]; simp)]; omega
  · rw [if_neg h, if_neg (by simp; exact fun h' => h h'.symm)]; omega
theorem Cnt.pos {i : Nat} {ms : List Msg} {F : Msg → Int} (h : Cnt i ms F) (k : Nat) (hk : k < ms.length) : 1 ≤ F ms[k] := by
  have h1 := h.le ms[k]
  have h2 : 0 < ms.count ms[k] := List.count_pos_iff.2 (List.getElem_mem hk)
  omega
theorem Cnt.out {i : Nat} {ms : List Msg} {F : Msg → Int} (h : Cnt i ms F) (k : Nat) (hk : k < ms.length) : Cnt (i + 1) (ms.take k ++ ms.drop (k + 1)) (upd F ms[k] (F ms[k] - 1)) := by
  refine ⟨by have := h.len; simp; omega, fun y => ?_, fun y => ?_⟩
  · have h1 := h.le y
    have h2 := count_out ms k hk y
    by_cases e : y = ms[k]
    · rw [if_pos e] at h2
      subst e
      rw [upd_same]
      omega
    · rw [if_neg e] at h2
      rw [upd_other e]
      omega
  · have := h.up y
    by_cases e : y = ms[k]
    · subst e
      rw [upd_same]
      omega
    · rw [upd_other e]
      omega
end Go.Proofs.Ytjbcmepnlnfkjaa
