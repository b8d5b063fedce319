/-
  MEMORY OF A BAG: its block, the row of its messages, each message's bytes (BagAt); how it stays while other blocks turn. No condition of its own.
-/
import Derived.Test.YtjbcmepnlnfkjaaBgWords
import Derived.Lib.OwnKind
import Derived.Maps.AppendAt
import Derived.Maps.Own
namespace Go.Proofs.Ytjbcmepnlnfkjaa
open Go Go.RowKit Go.Proofs

/-- bytes that lie in a block of bytes, one of P -/
def BytesT (w : World) (P : Nat → Prop) (A : Option Addr) (l : List UInt8) : Prop :=
  0 < l.length → ∃ b off cs fr, A = some ⟨b, off, none⟩ ∧ P b ∧ w.heap[b]? = some (.cells cs 5 fr) ∧ ∀ j (h : j < l.length), cs[off + j]? = some (bv l[j])
theorem BytesT.bytes {w : World} {P : Nat → Prop} {A : Option Addr} {l : List UInt8} (h : BytesT w P A l) : Bytes w A l := fun hl => by
  obtain ⟨b, off, cs, fr, e, _, hb, hc⟩ := h hl
  refine ⟨b, off, e, (Array.getElem?_eq_some_iff.1 hb).1, fun j hj => ?_⟩
  unfold World.cell?
  simp only [hb]
  exact hc j hj
theorem BytesT.keep {w w' : World} {P P' : Nat → Prop} {A : Option Addr} {l : List UInt8} (h : BytesT w P A l) (hk : ∀ b, P b → ∀ cs fr, w.heap[b]? = some (.cells cs 5 fr) → w'.heap[b]? = w.heap[b]? ∧ P' b) : BytesT w' P' A l := fun hl => by
  obtain ⟨b, off, cs, fr, e, hp, hb, hc⟩ := h hl
  obtain ⟨h1, h2⟩ := hk b hp cs fr hb
  exact ⟨b, off, cs, fr, e, h2, h1.trans hb, hc⟩
theorem bytesT_of_own {w : World} {base : Nat} {v : Value} {n : Nat} {l : List UInt8} {P : Nat → Prop} (h : w.ownsRow base 5 1 v n (l.map bv)) (hP : ∀ b, base ≤ b → P b) :
    ∃ A c, v = .slice A n c ∧ l.length = n ∧ n ≤ c ∧ c ≤ maxLen ∧ BytesT w P A l := by
  have hn : l.length = n := by simpa using h.1
  rcases h.2 with ⟨rfl, h0⟩ | ⟨g, cap, cur, rfl, hb, hg, hnc, hcm, hcs, ht⟩
  · have : l = [] := List.eq_nil_of_length_eq_zero (by omega)
    subst this
    exact ⟨none, 0, by rw [h0], hn, by omega, by omega, fun h => absurd h (by simp)⟩
  · refine ⟨_, cap, rfl, hn, hnc, hcm, fun hl => ⟨g, 0, cur, _, rfl, hP _ hb, hg, fun j hj => ?_⟩⟩
    have h2 : (cur.toList.take (n * 1))[j]? = (l.map bv)[j]? := by rw [ht]
    rw [List.getElem?_take, if_pos (by omega), List.getElem?_map, List.getElem?_eq_getElem hj] at h2
    rw [Nat.zero_add, ← Array.getElem?_toList]
    simpa using h2

/-- from, to, bytes -/
abbrev Msg := Int × Int × List UInt8
def flat3 : List Msg → List Value → List Value
  | m :: ms, v :: vs => .int .i64 m.1 :: .int .i64 m.2.1 :: v :: flat3 ms vs
  | [], _ => []
  | _ :: _, [] => []
theorem flat3_length : ∀ (ms : List Msg) (vs : List Value), ms.length = vs.length → (flat3 ms vs).length = ms.length * 3
  | [], [], _ => rfl
  | _ :: ms, _ :: vs, h => by simp [flat3, flat3_length ms vs (by simpa using h)]; omega
  | [], _ :: _, h => by simp at h
  | _ :: _, [], h => by simp at h
theorem flat3_append : ∀ (ms ms' : List Msg) (vs vs' : List Value), ms.length = vs.length → flat3 (ms ++ ms') (vs ++ vs') = flat3 ms vs ++ flat3 ms' vs'
  | [], ms', [], vs', _ => rfl
  | _ :: ms, ms', _ :: vs, vs', h => by simp [flat3, flat3_append ms ms' vs vs' (by simpa using h)]
  | [], _, _ :: _, _, h => by simp at h
  | _ :: _, _, [], _, h => by simp at h
theorem flat3_at : ∀ (ms : List Msg) (vs : List Value) (i : Nat) (hk : i < ms.length) (_ : i < vs.length), (flat3 ms vs)[i * 3]? = some (.int .i64 ms[i].1) ∧ (flat3 ms vs)[i * 3 + 1]? = some (.int .i64 ms[i].2.1) ∧ (flat3 ms vs)[i * 3 + 2]? = vs[i]?
  | m :: ms, v :: vs, 0, _, _ => by simp [flat3]
  | m :: ms, v :: vs, i + 1, hk, hv => by
    have := flat3_at ms vs i (by simpa using hk) (by simpa using hv)
    simpa [flat3, Nat.add_mul] using this
  | [], _, _, hk, _ => by simp at hk
  | _ :: _, [], _, _, hv => by simp at hv
theorem flat3_take : ∀ (ms : List Msg) (vs : List Value) (k : Nat), (flat3 ms vs).take (k * 3) = flat3 (ms.take k) (vs.take k)
  | _ :: ms, _ :: vs, 0 => by simp [flat3]
  | _ :: ms, _ :: vs, i + 1 => by simp [flat3, Nat.add_mul, flat3_take ms vs i]
  | [], _, i => by simp [flat3]
  | _ :: _, [], i => by cases i <;> simp [flat3]
theorem flat3_drop : ∀ (ms : List Msg) (vs : List Value) (k : Nat), ms.length = vs.length → (flat3 ms vs).drop (k * 3) = flat3 (ms.drop k) (vs.drop k)
  | _ :: ms, _ :: vs, 0, _ => by simp
  | _ :: ms, _ :: vs, i + 1, h => by simp [flat3, Nat.add_mul, flat3_drop ms vs i (by simpa using h)]
  | [], _, i, _ => by simp [flat3]
  | _ :: _, [], i, h => by simp at h

/-- each message's bytes -/
def Bods (w : World) (P : Nat → Prop) : List Value → List Msg → Prop
  | [], [] => True
  | v :: vs, m :: ms => (∃ A c, v = .slice A m.2.2.length c ∧ m.2.2.length ≤ c ∧ m.2.2.length ≤ 140737488355328 ∧ BytesT w P A m.2.2) ∧ Bods w P vs ms
  | [], _ :: _ => False
  | _ :: _, [] => False
section
variable {w w' : World} {P P' : Nat → Prop}
theorem Bods.length : ∀ {vs : List Value} {ms : List Msg}, Bods w P vs ms → ms.length = vs.length
  | [], [], _ => rfl
  | _ :: _, _ :: _, h => by simp [Bods.length h.2]
  | [], _ :: _, h => h.elim
  | _ :: _, [], h => h.elim
theorem Bods.at_ : ∀ {vs : List Value} {ms : List Msg}, Bods w P vs ms → ∀ (i : Nat) (hi : i < ms.length), ∃ A c, vs[i]? = some (.slice A ms[i].2.2.length c) ∧ ms[i].2.2.length ≤ c ∧ ms[i].2.2.length ≤ 140737488355328 ∧ BytesT w P A ms[i].2.2
  | [], [], _, i, hi => absurd hi (by simp)
  | _ :: _, _ :: _, h, 0, _ => by
    obtain ⟨A, c, h1, h2, h3⟩ := h.1
    exact ⟨A, c, by simp [h1], h2, h3⟩
  | _ :: _, _ :: _, h, i + 1, hi => by
    obtain ⟨A, c, h1, h2, h3⟩ := Bods.at_ h.2 i (by simpa using hi)
    exact ⟨A, c, by simpa using h1, h2, h3⟩
  | [], _ :: _, h, _, _ => h.elim
  | _ :: _, [], h, _, _ => h.elim
theorem Bods.append : ∀ {vs vs' : List Value} {ms ms' : List Msg}, Bods w P vs ms → Bods w P vs' ms' → Bods w P (vs ++ vs') (ms ++ ms')
  | [], _, [], _, _, h' => h'
  | _ :: _, _, _ :: _, _, h, h' => ⟨h.1, Bods.append h.2 h'⟩
  | [], _, _ :: _, _, h, _ => h.elim
  | _ :: _, _, [], _, h, _ => h.elim
theorem Bods.take : ∀ {vs : List Value} {ms : List Msg}, Bods w P vs ms → ∀ k, Bods w P (vs.take k) (ms.take k)
  | [], [], _, k => by cases k <;> trivial
  | _ :: _, _ :: _, _, 0 => trivial
  | _ :: _, _ :: _, h, k + 1 => ⟨h.1, Bods.take h.2 k⟩
  | [], _ :: _, h, _ => h.elim
  | _ :: _, [], h, _ => h.elim
theorem Bods.drop : ∀ {vs : List Value} {ms : List Msg}, Bods w P vs ms → ∀ k, Bods w P (vs.drop k) (ms.drop k)
  | [], [], _, k => by cases k <;> trivial
  | _ :: _, _ :: _, h, 0 => h
  | _ :: _, _ :: _, h, k + 1 => Bods.drop h.2 k
  | [], _ :: _, h, _ => h.elim
  | _ :: _, [], h, _ => h.elim
theorem Bods.keep (hk : ∀ b, P b → ∀ cs fr, w.heap[b]? = some (.cells cs 5 fr) → w'.heap[b]? = w.heap[b]? ∧ P' b) : ∀ {vs : List Value} {ms : List Msg}, Bods w P vs ms → Bods w' P' vs ms
  | [], [], _ => trivial
  | _ :: _, _ :: _, h => by
    obtain ⟨A, c, h1, h2, h3, h4⟩ := h.1
    exact ⟨⟨A, c, h1, h2, h3, h4.keep hk⟩, Bods.keep hk h.2⟩
  | [], _ :: _, h => h.elim
  | _ :: _, [], h => h.elim
end

def InI64 (x : Int) : Prop := -9223372036854775808 ≤ x ∧ x ≤ 9223372036854775807

/-- THE BAG's BLOCK -/
def Blk (w : World) (g m : Nat) (L : Value) : Prop := w.heap[g]? = some (.cells #[L, .map (some m)] 50)
/-- A BAG STANDS AT g: its messages ms, its map m; its row made from B on; its bytes in blocks of P -/
def BagAt (w : World) (B : Nat) (P : Nat → Prop) (g m : Nat) (ms : List Msg) : Prop :=
  ∃ L vs, Blk w g m L ∧ B ≤ g ∧ w.ownsRow B 55 3 L ms.length (flat3 ms vs) ∧ Bods w P vs ms ∧ ∀ x ∈ ms, InI64 x.1 ∧ InI64 x.2.1

/-- neither a bag's block nor a row of messages -/
def Free (w : World) (k : Nat) : Prop := ∀ c fr, w.heap[k]? ≠ some (.cells c 50 fr) ∧ w.heap[k]? ≠ some (.cells c 55 fr)
/-- but for bags, rows of messages and the map m nothing has turned -/
structure Beside (m : Nat) (w w' : World) : Prop where
  size : w.heap.size ≤ w'.heap.size
  block : ∀ k, k < w.heap.size → k ≠ m → Free w k → w'.heap[k]? = w.heap[k]?
theorem Beside.refl (m : Nat) (w : World) : Beside m w w := ⟨Nat.le_refl _, fun _ _ _ _ => rfl⟩
theorem Beside.trans {m : Nat} {a b c : World} (h : Beside m a b) (k : Beside m b c) : Beside m a c :=
  ⟨Nat.le_trans h.size k.size, fun i hi hm hf => by
    have e := h.block i hi hm hf
    refine (k.block i (Nat.lt_of_lt_of_le hi h.size) hm (fun c fr => ?_)).trans e
    rw [e]
    exact hf c fr⟩
theorem Beside.of_below {m : Nat} {w w' : World} (h : Below w.heap.size w w') : Beside m w w' := ⟨h.size, fun k hk _ _ => h.block k hk⟩
theorem Beside.drew (m : Nat) (w : World) : Beside m w w.drew := ⟨Nat.le_refl _, fun _ _ _ _ => rfl⟩
theorem Beside.alloc (m : Nat) (w : World) (o : Obj) : Beside m w (w.alloc o) := ⟨by simp, fun k hk _ _ => heap_alloc_old w o hk⟩
theorem Beside.grown {m : Nat} {w w' : World} {row : Option Nat} (hg : w.grownBy w' row) (hr : ∀ k, row = some k → ∃ c fr, w.heap[k]? = some (.cells c 55 fr)) : Beside m w w' :=
  ⟨hg.size, fun k hk _ hf => hg.block k hk (fun e => by
    obtain ⟨c, fr, h⟩ := hr k e.symm
    exact (hf c fr).2 h)⟩

theorem Blk.lt {w : World} {g m : Nat} {L : Value} (h : Blk w g m L) : g < w.heap.size := (Array.getElem?_eq_some_iff.1 h).1
theorem Blk.c0 {w : World} {g m : Nat} {L : Value} (h : Blk w g m L) : w.cell? ⟨g, 0, none⟩ = some L := by unfold World.cell?; simp [show w.heap[g]? = _ from h]
theorem Blk.c1 {w : World} {g m : Nat} {L : Value} (h : Blk w g m L) : w.cell? ⟨g, 1, none⟩ = some (.map (some m)) := by unfold World.cell?; simp [show w.heap[g]? = _ from h]
theorem Blk.fz {w : World} {g m : Nat} {L : Value} (h : Blk w g m L) (i : Nat) : w.frozen? ⟨g, i, none⟩ = false := by unfold World.frozen?; simp [show w.heap[g]? = _ from h]
theorem Blk.set {w : World} {g m : Nat} {L : Value} (h : Blk w g m L) (L' : Value) : Blk (w.setCell ⟨g, 0, none⟩ L') g m L' := by
  have h' : w.heap[g]? = _ := h
  show (w.heap.modify _ _)[g]? = _
  rw [Array.getElem?_modify, if_pos rfl, h']
  rfl
theorem setCell_other {w : World} {g k i : Nat} (v : Value) (h : k ≠ g) : (w.setCell ⟨g, i, none⟩ v).heap[k]? = w.heap[k]? := Below.heap_setCell w ⟨g, i, none⟩ v k h

theorem own_row_kind {w : World} {B : Nat} {e : TypeId} {s : Nat} {v : Value} {n : Nat} {xs : List Value} (h : w.ownsRow B e s v n xs) : ∀ k, v.ownBlock = some k → ∃ c fr, w.heap[k]? = some (.cells c e fr) := Lib.ownsRow_kind h
theorem own_below {w w' : World} {base : Nat} {e : TypeId} {size : Nat} {v : Value} {n : Nat} {xs : List Value} (h : w.ownsRow base e size v n xs) (hb : Below w.heap.size w w') : w'.ownsRow base e size v n xs :=
  h.kept (row := none) ⟨hb.os, hb.tape, hb.output, hb.size, fun k hk _ => hb.block k hk⟩ (by cases h : v.ownBlock with | none => exact .inl rfl | some g => exact .inr (by simp))

/-- the bag stays while only new blocks turn -/
theorem BagAt.below {w w' : World} {B : Nat} {P : Nat → Prop} {g m : Nat} {ms : List Msg} (h : BagAt w B P g m ms) (hb : Below w.heap.size w w') : BagAt w' B P g m ms := by
  obtain ⟨L, vs, h1, h2, h3, h4, h5⟩ := h
  exact ⟨L, vs, (hb.block g h1.lt).trans h1, h2, own_below h3 hb, h4.keep (fun b hp cs fr hc => ⟨hb.block b (Array.getElem?_eq_some_iff.1 hc).1, hp⟩), h5⟩
/-- .. while a cell of a block of bytes outside P is written -/
theorem BagAt.poke {w : World} {B : Nat} {P : Nat → Prop} {g m : Nat} {ms : List Msg} (h : BagAt w B P g m ms) {k : Nat} {cs : Array Value} {fr : Nat × Nat} (hk : w.heap[k]? = some (.cells cs 5 fr)) (hP : ¬ P k) (i : Nat) (v : Value) :
    BagAt (w.setCell ⟨k, i, none⟩ v) B P g m ms := by
  obtain ⟨L, vs, h1, h2, h3, h4, h5⟩ := h
  have hgk : g ≠ k := by
    intro e
    subst e
    have := h1.symm.trans hk
    injection this with this
    injection this with _ this _
    cases this
  refine ⟨L, vs, (setCell_other v hgk).trans h1, h2, ?_, h4.keep (fun b hp cs' fr' hc => ⟨setCell_other v (fun e => hP (by rw [← show b = k from e]; exact hp)), hp⟩), h5⟩
  refine ownsRow_setCell_other h3 (a := ⟨k, i, none⟩) (fun e => ?_) v
  obtain ⟨c, fr', hc⟩ := own_row_kind h3 k e
  have := hc.symm.trans hk
  injection this with this
  injection this with _ this _
  cases this
/-- .. while blocks turn that are neither bags nor rows nor bytes of P -/
theorem BagAt.other {w w' : World} {B : Nat} {P : Nat → Prop} {g m : Nat} {ms : List Msg} (h : BagAt w B P g m ms) (hk : ∀ (k : Nat) (c : Array Value) (t : TypeId) (fr : Nat × Nat), w.heap[k]? = some (Obj.cells c t fr) → (t = 50 ∨ t = 55 ∨ t = 5) → w'.heap[k]? = w.heap[k]?) : BagAt w' B P g m ms := by
  obtain ⟨L, vs, h1, h2, h3, h4, h5⟩ := h
  refine ⟨L, vs, (hk g _ _ _ h1 (.inl rfl)).trans h1, h2, ?_, h4.keep (fun b hp cs fr hc => ⟨hk b _ _ _ hc (.inr (.inr rfl)), hp⟩), h5⟩
  rcases h3.2 with h0 | ⟨q, cap, cur, e, hb, hg, r⟩
  · exact ⟨h3.1, .inl h0⟩
  · exact ⟨h3.1, .inr ⟨q, cap, cur, e, hb, (hk q _ _ _ hg (.inr (.inl rfl))).trans hg, r⟩⟩
end Go.Proofs.Ytjbcmepnlnfkjaa
