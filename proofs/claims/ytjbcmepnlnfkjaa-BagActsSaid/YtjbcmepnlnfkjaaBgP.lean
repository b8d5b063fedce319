/-
  A MAP OF COUNTS BY MESSAGE, of the call's own (LMap): made, kept, read, raised and lowered as 'm[k]++' and 'm[k]--' do it. No condition of its own.
-/
import Derived.Test.YtjbcmepnlnfkjaaBgI
import Derived.DeepKeys4
import Derived.WideKeyEntry
namespace Go.Proofs.Ytjbcmepnlnfkjaa
open Go Go.RowKit Go.Proofs
open Go.Maps (Keyed)
open Go.ChangeMaps (setBlock heap_setBlock_same heap_setBlock_other)

theorem laid_prog : laidOutB Try.prog = true := by kernel_rfl
theorem law32 : WideMaps.KeyLaw Try.prog 32 := deep_law_laid laid_prog (m := 3) (by omega) (of_decide_eq_true (by kernel_rfl)) (by kernel_rfl) (by rw [Try.underlying32])
theorem keyed32 : Keyed Try.prog 32 := Keyed.of_law law32

/-- a message as a key of the map -/
def mkey (x : Msg) : Value := .agg #[.int .i64 x.1, .int .i64 x.2.1, .string (text x.2.2)]
def MOk (x : Msg) : Prop := InI64 x.1 ∧ InI64 x.2.1 ∧ x.2.2.length ≤ maxLen
theorem text_size (l : List UInt8) : (text l).size = l.length := by simp [text, ByteArray.size]
theorem key_at (x : Msg) (h : MOk x) : ∃ kl, keyOf Try.prog 32 (mkey x) = some kl := by
  obtain ⟨xf, xt, xb⟩ := x
  obtain ⟨h1, h2, h3⟩ := h
  have w1 := wf_i64 h1
  have w2 := wf_i64 h2
  have h4 : (text xb).size ≤ maxLen := by rw [text_size]; exact h3
  have c3 : Try.prog.cellsOf 3 = 1 := by kernel_rfl
  have c9 : Try.prog.cellsOf 9 = 1 := by kernel_rfl
  have c32 : Try.prog.cellsOf 32 = 3 := by kernel_rfl
  have hkt : Try.prog.keyType 32 = true := by kernel_rfl
  obtain ⟨sz, hsz⟩ : ∃ sz, Try.prog.types.size = sz + 1 := Nat.exists_eq_succ_of_ne_zero (of_decide_eq_true (by kernel_rfl))
  unfold keyOf mkey
  simp only [Try.underlying32]
  rw [if_pos (by simp [hkt, Value.formed, Try.underlying32, c32])]
  rw [hsz]
  unfold Program.keyLits
  simp only [Try.underlying32, Value.cells]
  rw [if_pos (by rw [c32]; exact ⟨rfl, by kernel_rfl⟩)]
  simp [Program.keyLits, Try.underlying3, Try.underlying9, c3, c9, w1, w2, h4]
/-- F but a at x -/
def upd (F : Msg → Int) (x : Msg) (a : Int) (y : Msg) : Int := if y = x then a else F y
theorem upd_same {F : Msg → Int} {x : Msg} {a : Int} : upd F x a x = a := if_pos rfl
theorem upd_other {F : Msg → Int} {x y : Msg} {a : Int} (h : ¬ y = x) : upd F x a y = F y := if_neg h
theorem mkey_inj {x y : Msg} (h : mkey x = mkey y) : x = y := by
  unfold mkey at h
  injection h with h
  have h0 := congrArg (fun l : Array Value => l.toList) h
  simp [text_inj] at h0
  obtain ⟨h1, h2, h3⟩ := h0
  exact Prod.ext h1 (Prod.ext h2 h3)

section
variable {P : Program} {w : World} {t k e : TypeId} {b : Nat} {es : Array MapEntry} {clock : Nat} {H : Type} {R : Value → Option (DataW H × List MemPlace)}
/-- what 'mapEntry' leaves is what a store of the value that stood there would leave -/
theorem entry_upd (K : Keyed P k) (ht : P.underlying t = some (.map k e)) {z : Value} (hz : ∀ u : World, (zeroValue e).run P u = .ok z u) (hb : w.heap[b]? = some (.map es clock)) (F : WideElems.Fit P k R es clock)
    {key : Value} {kl : Lit} (hkey : keyOf P k key = some kl) :
    ∃ (v0 : Value) (st : Nat) (w' : World), (Instr.mapEntry t (.map (some b)) key).run P w = .ok (.tuple #[v0, goInt st]) w' ∧ (Instr.lookup t (.map (some b)) key false).run P w = .ok v0 w ∧ (Instr.mapUpdate t (.map (some b)) key v0).run P w = .ok () w' := by
  rcases K.find w hkey es.toList F.keys with ⟨h1, h2⟩ | ⟨j, e0, h1, h2, h3⟩
  · refine ⟨z, clock, setBlock w b (.map (es.push ⟨key, z, clock⟩) (clock + 1)), ?_, ?_, ?_⟩
    · simp [Instr.mapEntry, run_underlying ht, MapKept.run_getObj_map hb, K.check w false hkey, h1, hz, MapKept.run_setObj_map _ hb, Result.andThen, setBlock]
    · simp [Instr.lookup, run_underlying ht, MapKept.run_getObj_map hb, K.check w _ hkey, h1, hz, Result.andThen]
    · simp [Instr.mapUpdate, run_underlying ht, MapKept.run_getObj_map hb, K.check w false hkey, h1, MapKept.run_setObj_map _ hb, Result.andThen, setBlock]
  · have hj : es[j]? = some e0 := by simpa using h2
    have hsame : es.modify j (fun e => { e with key := key }) = es := by
      refine Array.ext_getElem? fun i => ?_
      rw [Array.getElem?_modify]
      split
      · rename_i hij
        rw [← hij, hj]
        simp [← h3]
      · rfl
    have hsame2 : es.modify j (fun e => { e with key := key, val := e0.val }) = es := by
      refine Array.ext_getElem? fun i => ?_
      rw [Array.getElem?_modify]
      split
      · rename_i hij
        rw [← hij, hj]
        simp [← h3]
      · rfl
    refine ⟨e0.val, e0.born, setBlock w b (.map es clock), ?_, ?_, ?_⟩
    · simp [Instr.mapEntry, run_underlying ht, MapKept.run_getObj_map hb, K.check w false hkey, h1, hj, h3, K.stays w hkey, hsame, MapKept.run_setObj_map _ hb, Result.andThen, setBlock]
    · simp [Instr.lookup, run_underlying ht, MapKept.run_getObj_map hb, K.check w _ hkey, h1, Result.andThen]
    · simp [Instr.mapUpdate, run_underlying ht, MapKept.run_getObj_map hb, K.check w false hkey, h1, hj, h3, K.stays w hkey, hsame2, MapKept.run_setObj_map _ hb, Result.andThen, setBlock]
end

/-- THE MAP AT m COUNTS AS F SAYS (at most n entries) -/
def LMap (w : World) (m n : Nat) (F : Msg → Int) : Prop :=
  ∃ D : DataW Unit, w.ownsMap Try.prog 32 (plainElem Try.prog 3) m n D ∧ Maps.IsMap D ∧ ∀ x kl, MOk x → keyOf Try.prog 32 (mkey x) = some kl → D.atKey kl (.lit (.int .i64 0)) = .lit (.int .i64 (F x))
theorem LMap.lt {w : World} {m n : Nat} {F : Msg → Int} (h : LMap w m n F) : m < w.heap.size := by
  obtain ⟨D, h1, _⟩ := h
  exact h1.lt
theorem LMap.same {w w' : World} {m n : Nat} {F : Msg → Int} (h : LMap w m n F) (hk : w'.heap[m]? = w.heap[m]?) : LMap w' m n F := by
  obtain ⟨D, ⟨es, clock, hb, F, hs, hD⟩, h2, h3⟩ := h
  exact ⟨D, ⟨es, clock, hk.trans hb, F, hs, hD⟩, h2, h3⟩
theorem LMap.below {w w' : World} {m n : Nat} {F : Msg → Int} (h : LMap w m n F) (hb : Below w.heap.size w w') : LMap w' m n F := h.same (hb.block m h.lt)
theorem LMap.isMp {w : World} {m n : Nat} {F : Msg → Int} (h : LMap w m n F) : IsMp w m := by
  obtain ⟨D, ⟨es, clock, hb, _⟩, _⟩ := h
  exact ⟨es, clock, hb⟩
theorem LMap.made {w : World} {m : Nat} (h : w.heap[m]? = some (.map #[] 0)) : LMap w m 0 (fun _ => 0) :=
  ⟨.map [], ⟨#[], 0, h, ⟨by simp, MapKept.stamped_empty 0, by simp⟩, Nat.le_refl _, rfl⟩, Maps.isMap_empty, fun _ _ _ _ => rfl⟩
theorem info3 : (Try.prog.info? 3).map (fun i => (i.zero, i.size, i.bytes)) = some (some (.int .i64 0), 1, 8) := by kernel_rfl
theorem zero3 (w : World) : (zeroValue 3).run Try.prog w = .ok (.int .i64 0) w := by
  obtain ⟨i0, hi, hz0, hz1, hz2⟩ := info_parts info3
  simp [zeroValue, typeInfo, hi, hz0]
theorem LMap.look {w : World} {m n : Nat} {F : Msg → Int} (h : LMap w m n F) {x : Msg} (hx : MOk x) :
    (Instr.lookup 25 (.map (some m)) (mkey x) false).run Try.prog w = .ok (.int .i64 (F x)) w := by
  obtain ⟨D, h1, h2, h3⟩ := h
  obtain ⟨kl, hkl⟩ := key_at x hx
  obtain ⟨c, hrun, hat, _⟩ := h1.lookup_int (t := 25) (e := 3) keyed32 Try.underlying25 Try.underlying3 (zero3 w) hkl
  rw [h3 x kl hx hkl] at hat
  injection hat with hat
  injection hat with _ hat
  rw [hrun, hat]
theorem LMap.wf {w : World} {m n : Nat} {F : Msg → Int} (h : LMap w m n F) {x : Msg} (hx : MOk x) : (Lit.int .i64 (F x)).wf = true := by
  obtain ⟨D, h1, h2, h3⟩ := h
  obtain ⟨kl, hkl⟩ := key_at x hx
  obtain ⟨c, hrun, hat, hw⟩ := h1.lookup_int (t := 25) (e := 3) keyed32 Try.underlying25 Try.underlying3 (zero3 w) hkl
  rw [h3 x kl hx hkl] at hat
  injection hat with hat
  injection hat with _ hat
  rw [hat]
  exact hw
theorem LMap.put {w : World} {m n : Nat} {F : Msg → Int} (h : LMap w m n F) (hn : n < maxLen) {x : Msg} (hx : MOk x) {a : Int} (ha : (Lit.int .i64 a).wf = true) :
    ∃ w', (Instr.mapUpdate 25 (.map (some m)) (mkey x) (.int .i64 a)).run Try.prog w = .ok () w' ∧ LMap w' m (n + 1) (upd F x a) ∧ w.grownBy w' (some m) := by
  obtain ⟨D, h1, h2, h3⟩ := h
  obtain ⟨kl, hkl⟩ := key_at x hx
  obtain ⟨w', hrun, h4, h5⟩ := h1.update (t := 25) (e := 3) keyed32 Try.underlying25 hn hkl (plainElem_int Try.underlying3 ha)
  refine ⟨w', hrun, ⟨D.put kl (.lit (.int .i64 a)), h4, h2.put _ _, fun y kl' hy hkl' => ?_⟩, h5⟩
  by_cases e : y = x
  · subst e
    have : kl' = kl := by rw [hkl] at hkl'; injection hkl' with h; exact h.symm
    subst this
    rw [Maps.atKey_put_same h2 (keyed32.key hkl), upd_same]
  · have hne : kl' ≠ kl := by
      intro he
      subst he
      exact e (mkey_inj (keyed32.inj hkl' hkl))
    rw [Maps.atKey_put_other hne, h3 y kl' hy hkl', upd_other e]

/-- 'm[k] += ..' in its two steps -/
theorem LMap.bump {w : World} {m n : Nat} {F : Msg → Int} (h : LMap w m n F) (hn : n < maxLen) {x : Msg} (hx : MOk x) :
    ∃ (st : Nat) (w1 : World), (Instr.mapEntry 25 (.map (some m)) (mkey x)).run Try.prog w = .ok (.tuple #[.int .i64 (F x), goInt st]) w1 ∧ w.grownBy w1 (some m) ∧ LMap w1 m (n + 1) F ∧
      ∀ (w2 : World) (a : Int), w2.heap[m]? = w1.heap[m]? → (Lit.int .i64 a).wf = true → ∃ w3, (Instr.entryStore 25 (.map (some m)) (goInt st) (.int .i64 a)).run Try.prog w2 = .ok () w3 ∧ LMap w3 m (n + 1) (upd F x a) ∧ w2.grownBy w3 (some m) := by
  have hlook := h.look hx
  have hwf := h.wf hx
  obtain ⟨wu, hu1, hu2, hu3⟩ := h.put hn hx hwf
  have hF : upd F x (F x) = F := by
    funext y
    unfold upd
    split
    · rename_i e; rw [e]
    · rfl
  rw [hF] at hu2
  have hputs := fun (a : Int) (ha : (Lit.int .i64 a).wf = true) => h.put hn hx ha
  obtain ⟨D, ⟨es, clock, hb, FF, hs, hD⟩, h2, h3⟩ := h
  obtain ⟨kl, hkl⟩ := key_at x hx
  obtain ⟨v0, st, w1, e1, e2, e3⟩ := entry_upd (w := w) keyed32 Try.underlying25 zero3 hb FF hkl
  have hv0 : v0 = .int .i64 (F x) := by
    have := e2.symm.trans hlook
    injection this
  subst hv0
  have hw1 : w1 = wu := by
    have := e3.symm.trans hu1
    injection this
  subst hw1
  refine ⟨st, w1, e1, hu3, hu2, fun w2 a hw2 ha => ?_⟩
  obtain ⟨v0', st', es1, clock1, r1, _, r3⟩ := WideElems.entry_then_store (w := w) law32 Try.underlying25 zero3 hb FF hkl
  have hst := e1.symm.trans r1
  injection hst with hst1 hst2
  have hgi : goInt st = goInt st' := by
    injection hst1 with hst1
    have h0 := congrArg (fun l : Array Value => l.toList) hst1
    simp at h0
    exact h0.2
  have hw2' : w2.heap[m]? = some (.map es1 clock1) := by rw [hw2, hst2]; exact heap_setBlock_same hb _
  obtain ⟨es', clock', q1, q2⟩ := r3 w2 (.int .i64 a) hw2'
  obtain ⟨w4, p1, p2, p3⟩ := hputs a ha
  have hw4 : w4 = setBlock w m (.map es' clock') := by
    have := p1.symm.trans q2
    injection this
  rw [hgi]
  refine ⟨_, q1, p2.same ?_, ⟨rfl, rfl, rfl, by simp [setBlock], fun k hk hne => heap_setBlock_other hw2' _ (fun e => hne (by rw [e]))⟩⟩
  rw [hw4, heap_setBlock_same hb, heap_setBlock_same hw2']
end Go.Proofs.Ytjbcmepnlnfkjaa
