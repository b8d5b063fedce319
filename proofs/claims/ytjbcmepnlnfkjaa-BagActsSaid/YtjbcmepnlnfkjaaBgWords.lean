/-
  WORDS FOR THE WALKS of this seat: a slice that reads as bytes (nil and empty let in), its keeping over new memory, its cuts, its text; append of bytes onto bytes of the call's own. No condition of its own.
-/
import Derived.Test.YtjbcmepnlnfkjaaProg
import Derived.Test.YtjbcmepnlnfkjaaBgFlow
import Derived.WalkKit
import Derived.WalkSpells
import Derived.Lib.Hide
namespace Go.Proofs.Ytjbcmepnlnfkjaa
open Go Go.RowKit Go.Proofs

/-- a byte as a cell holds it -/
def bv (c : UInt8) : Value := .int .u8 ((c.toNat : Nat) : Int)

/-- the slice value '.slice A n c', n the list's length, reads as these bytes -/
def Bytes (w : World) (A : Option Addr) (l : List UInt8) : Prop :=
  0 < l.length → ∃ b off, A = some ⟨b, off, none⟩ ∧ b < w.heap.size ∧ ∀ j (h : j < l.length), w.cell? ⟨b, off + j, none⟩ = some (bv l[j])

theorem Bytes.none_ (w : World) (A : Option Addr) : Bytes w A [] := fun h => absurd h (by simp)
theorem Bytes.keep {w w' : World} {A : Option Addr} {l : List UInt8} (h : Bytes w A l) (hs : w.heap.size ≤ w'.heap.size) (hk : ∀ p : Addr, p.block < w.heap.size → w'.cell? p = w.cell? p) : Bytes w' A l := fun hl => by
  obtain ⟨b, off, rfl, hb, hc⟩ := h hl
  exact ⟨b, off, rfl, by omega, fun j hj => (hk _ hb).trans (hc j hj)⟩
theorem Bytes.below {w w' : World} {A : Option Addr} {l : List UInt8} (h : Bytes w A l) (hb : Below w.heap.size w w') : Bytes w' A l :=
  h.keep hb.size fun _ hp => hb.cell hp
theorem Bytes.drew {w : World} {A : Option Addr} {l : List UInt8} (h : Bytes w A l) : Bytes w.drew A l := h
theorem Bytes.alloc {w : World} {A : Option Addr} {l : List UInt8} (h : Bytes w A l) (o : Obj) : Bytes (w.alloc o) A l :=
  h.keep (by simp) fun p hp => World.cell?_alloc_lt w o p hp
theorem Bytes.drop {w : World} {A : Option Addr} {l : List UInt8} (h : Bytes w A l) (k c : Nat) (hc : l.length ≤ c) :
    Bytes w (if c = k then A else A.map (·.add k)) (l.drop k) := fun hl => by
  rw [List.length_drop] at hl
  obtain ⟨b, off, rfl, hb, hcell⟩ := h (by omega)
  rw [if_neg (by omega)]
  refine ⟨b, off + k, ?_, hb, fun j hj => ?_⟩
  · simp only [Option.map_some, Addr.add]
    split
    · rename_i h0; simp [h0]
    · rfl
  · rw [List.length_drop] at hj
    rw [List.getElem_drop, ← hcell (k + j) (by omega)]
    congr 2
    omega
theorem Bytes.dropped {w : World} {A : Option Addr} {l : List UInt8} (h : Bytes w A l) (k c : Nat) (hc : l.length ≤ c) :
    Bytes w (if c = k then A else Option.map (fun x => { block := x.block, off := x.off + k }) A) (l.drop k) := fun hl => by
  rw [List.length_drop] at hl
  obtain ⟨b, off, rfl, hb, hcell⟩ := h (by omega)
  rw [if_neg (by omega)]
  refine ⟨b, off + k, rfl, hb, fun j hj => ?_⟩
  rw [List.length_drop] at hj
  rw [List.getElem_drop, ← hcell (k + j) (by omega)]
  congr 2
  omega
theorem Bytes.take {w : World} {A : Option Addr} {l : List UInt8} (h : Bytes w A l) (k : Nat) : Bytes w A (l.take k) := fun hl => by
  rw [List.length_take] at hl
  obtain ⟨b, off, rfl, hb, hcell⟩ := h (by omega)
  refine ⟨b, off, rfl, hb, fun j hj => ?_⟩
  rw [List.length_take] at hj
  rw [List.getElem_take]
  exact hcell j (by omega)

/-- the byte at k -/
theorem Bytes.at_ {w : World} {A : Option Addr} {l : List UInt8} (h : Bytes w A l) {k : Nat} (hk : k < l.length) :
    ∃ b off, A = some ⟨b, off, none⟩ ∧ b < w.heap.size ∧ w.cell? ⟨b, off + k, none⟩ = some (bv l[k]) := by
  obtain ⟨b, off, e, hb, hc⟩ := h (by omega)
  exact ⟨b, off, e, hb, hc k hk⟩

theorem add_plain (b off j : Nat) : (⟨b, off, none⟩ : Addr).add j = ⟨b, off + j, none⟩ := by unfold Addr.add; split <;> simp_all

/-- the text of bytes -/
def text (l : List UInt8) : ByteArray := ⟨l.toArray⟩
theorem text_toList (l : List UInt8) : (text l).toList = l := by
  unfold text
  simp
theorem text_inj {l r : List UInt8} : text l = text r ↔ l = r := by
  constructor
  · intro h
    have := congrArg (fun t : ByteArray => t.data.toList) h
    simpa [text] using this
  · intro h; rw [h]
theorem foldl_push_text : ∀ (l : List UInt8) (s : ByteArray), (l.map fun c => ((c.toNat : Nat) : Int)).foldl (fun r n => r.push (UInt8.ofNat n.toNat)) s = ⟨s.data ++ l.toArray⟩
  | [], s => by simp
  | c :: l, s => by
    rw [List.map_cons, List.foldl_cons, foldl_push_text l]
    simp [ByteArray.push]

section
variable {P : Program} (w : World)
/-- string(b) -/
theorem run_text (src dst e : TypeId) (hs : P.underlying src = some (.slice e)) (he : P.underlying e = some (.int .u8)) (hd : P.underlying dst = some .string)
    (A : Option Addr) (n c : Nat) (l : List UInt8) (hn : l.length = n) (h : Bytes w A l) : (convert src dst (.slice A n c)).run P w = .ok (.string (text l)) w := by
  subst hn
  rw [run_convert_bytes_string w src dst e _ _ c hs he hd]
  rcases A with _ | a
  · have : l = [] := by
      rcases Nat.eq_zero_or_pos l.length with h0 | h0
      · exact List.eq_nil_of_length_eq_zero h0
      · obtain ⟨_, _, e, _⟩ := h h0; cases e
    subst this
    simp [Conv.bytesToString]
    rfl
  · have hl : (loadCells a l.length).run P w = .ok ((l.map fun c => ((c.toNat : Nat) : Int)).map (Value.int .u8)).toArray w := by
      have := run_loadCells_list (P := P) w a ((l.map fun c => ((c.toNat : Nat) : Int)).map (Value.int .u8)) (fun j v hj => by
        have hjl : j < l.length := by
          rcases Nat.lt_or_ge j l.length with h | h
          · exact h
          · rw [List.getElem?_eq_none (by simpa using h)] at hj; cases hj
        obtain ⟨b, off, e, _, hc⟩ := h (by omega)
        injection e with e
        subst e
        rw [add_plain, hc j hjl]
        rw [List.getElem?_eq_getElem (by simpa using hjl)] at hj
        simpa [bv] using hj)
      simpa using this
    rw [run_bytesToString w a l.length c _ hl, foldl_push_text]
    simp [text, ByteArray.empty, ByteArray.emptyWithCapacity]
    rfl
end

/-- string(b), in every later world -/
theorem text_at {w : World} {A : Option Addr} {n c : Nat} {l : List UInt8} (hn : l.length = n) (h : Bytes w A l) :
    ∀ u, Below w.heap.size w u → (convert 26 9 (.slice A n c)).run Try.prog u = .ok (.string (text l)) u :=
  fun u hu => run_text (P := Try.prog) u 26 9 5 Try.underlying26 Try.underlying5 Try.underlying9 A n c l hn (h.below hu)

/-- what the call owns and has put together reads as its bytes -/
theorem bytes_of_own {w : World} {base : Nat} {e : TypeId} {v : Value} {n : Nat} {l : List UInt8} (h : w.ownsRow base e 1 v n (l.map bv)) :
    ∃ A c, v = .slice A n c ∧ l.length = n ∧ n ≤ c ∧ c ≤ maxLen ∧ Bytes w A l := by
  have hn : l.length = n := by simpa using h.1
  rcases h.2 with ⟨rfl, h0⟩ | ⟨g, cap, cur, rfl, hb, hg, hnc, hcm, hcs, ht⟩
  · have : l = [] := List.eq_nil_of_length_eq_zero (by omega)
    subst this
    exact ⟨none, 0, by rw [h0], hn, by omega, by omega, Bytes.none_ _ _⟩
  · refine ⟨_, cap, rfl, hn, hnc, hcm, fun hl => ⟨g, 0, rfl, ?_, fun j hj => ?_⟩⟩
    · exact (Array.getElem?_eq_some_iff.1 hg).1
    · have := h.cells (g := g) rfl j (bv l[j]) (by simp [List.getElem?_eq_getElem hj])
      rwa [add_plain] at this

theorem bv_one (l : List UInt8) : ∀ u ∈ l.map bv, u.oneCell' = true := by
  intro u hu
  obtain ⟨c, _, rfl⟩ := List.mem_map.1 hu
  rfl

section
variable {P : Program} (w : World)
/-- append(v, b...), v the call's own -/
theorem run_append_bytes (base : Nat) (t ty e : TypeId) (i : TypeInfo) (z : Value) (ht : P.underlying t = some (.slice e)) (hi : P.info? e = some i) (hz : i.zero = some z)
    (hsize : i.size = 1) (hby : i.bytes = 1) (hzs : z.cells.size = 1) (v : Value) (n : Nat) (xs : List Value) (hown : w.ownsRow base e 1 v n xs)
    (A : Option Addr) (m c : Nat) (l : List UInt8) (hm : l.length = m) (hr : Bytes w A l) (hbytes : n + m ≤ 140737488355328) (hbase : base ≤ w.heap.size) :
    ∃ v' w', (Builtin.append_ #[t, t] ty #[v, .slice A m c]).run P w = .ok v' w' ∧ w'.ownsRow base e 1 v' (n + m) (xs ++ l.map bv) ∧ w.grownBy w' v.ownBlock := by
  subst hm
  rcases A with _ | ad
  · have : l = [] := by
      rcases Nat.eq_zero_or_pos l.length with h0 | h0
      · exact List.eq_nil_of_length_eq_zero h0
      · obtain ⟨_, _, e, _⟩ := hr h0; cases e
    subst this
    refine ⟨v, w, ?_, by simpa using hown, World.grownBy.refl w _⟩
    rcases hown.2 with ⟨rfl, rfl⟩ | ⟨g, cap, cur, rfl, _, _, hnc, _⟩
    · simp [Builtin.append_, run_underlying ht, sizeOf, typeInfo, hi, Builtin.lenOf, Builtin.firstCells]
    · simp [Builtin.append_, run_underlying ht, sizeOf, typeInfo, hi, Builtin.lenOf, Builtin.firstCells, hnc, storeCells]
  · obtain ⟨v', w', hrun, h2, h3, _⟩ := run_append_own (P := P) w base t ty e i z 1 1 ht hi hz hsize hby hzs (by omega) v n xs hown ad l.length c (l.map bv) (by simp)
      (fun j u hu => by
        have hj : j < l.length := by
          rcases Nat.lt_or_ge j l.length with h | h
          · exact h
          · rw [List.getElem?_eq_none (by simpa using h)] at hu; cases hu
        obtain ⟨b, off, e, _, hc⟩ := hr (by omega)
        injection e with e
        subst e
        rw [add_plain, hc j hj]
        simpa [List.getElem?_eq_getElem hj] using hu)
      (bv_one l) (by unfold maxLen; omega) (by omega) hbase
    exact ⟨v', w', hrun, h2, h3⟩

theorem wpList_append_bytes {ops : Array Oper} {rest : List Oper} {o : Oper} {a : Act} {Q : Exit → Act → World → Prop} (hg : o.guard = none) (s x : Operand) (t : TypeId)
    (hop : o.op = Op.call { callee := Callee.builtin Builtin.append, args := #[s, x], argTypes := #[t, t] })
    (base : Nat) (e : TypeId) (i : TypeInfo) (z : Value) (ht : P.underlying t = some (.slice e)) (hi : P.info? e = some i) (hz : i.zero = some z)
    (hsize : i.size = 1) (hby : i.bytes = 1) (hzs : z.cells.size = 1) (v : Value) (n : Nat) (xs : List Value) (hs : a.eval s = v) (hown : w.ownsRow base e 1 v n xs)
    (A : Option Addr) (m c : Nat) (l : List UInt8) (hx : a.eval x = .slice A m c) (hm : l.length = m) (hr : Bytes w A l) (hbytes : n + m ≤ 140737488355328) (hbase : base ≤ w.heap.size)
    (hK : ∀ v' w', w'.ownsRow base e 1 v' (n + m) (xs ++ l.map bv) → w.grownBy w' v.ownBlock → wpList P ops Q rest (a.put o.dst v') w') : wpList P ops Q (o :: rest) a w := by
  refine wpList_plain hg fun K hK' => ?_
  obtain ⟨v', w', hrun, r1, r2⟩ := run_append_bytes (P := P) w base t o.type e i z ht hi hz hsize hby hzs v n xs hown A m c l hm hr hbytes hbase
  unfold Oper.wp
  simp [execOp, hop, resolve, invoke, builtin, hs, hx, hrun, Result.andThen]
  exact hK' _ _ (hK v' w' r1 r2)
end

theorem info5 : (Try.prog.info? 5).map (fun i => (i.zero, i.size, i.bytes)) = some (some (.int .u8 0), 1, 1) := by kernel_rfl

/-- the row of the call's own that a literal lays -/
theorem own_lit (w : World) (l : List UInt8) (e : TypeId) (base : Nat) (hb : base ≤ w.heap.size) (hm : l.length ≤ maxLen) :
    (w.alloc (.cells (l.map bv).toArray e)).ownsRow base e 1 (.slice (some ⟨w.heap.size, 0, none⟩) l.length l.length) l.length (l.map bv) :=
  ⟨by simp, .inr ⟨w.heap.size, l.length, _, rfl, hb, heap_alloc_new w _, Nat.le_refl _, hm, by simp, by simp [List.take_of_length_le]⟩⟩

theorem own_form {w : World} {base : Nat} {e : TypeId} {size : Nat} {v : Value} {n : Nat} {xs : List Value} (h : w.ownsRow base e size v n xs) (hn : 0 < n) :
    ∃ g cap, v = .slice (some ⟨g, 0, none⟩) n cap ∧ base ≤ g ∧ g < w.heap.size ∧ n ≤ cap ∧ cap ≤ maxLen := by
  rcases h.2 with ⟨_, h0⟩ | ⟨g, cap, cur, hv, hb, hg, hnc, hcm, _⟩
  · omega
  · exact ⟨g, cap, hv, hb, (Array.getElem?_eq_some_iff.1 hg).1, hnc, hcm⟩
theorem own_empty (w : World) (e : TypeId) (base b : Nat) (hb : b = w.heap.size) (hbase : base ≤ b) :
    (w.alloc (.cells #[] e)).ownsRow base e 1 (.slice (some ⟨b, 0, none⟩) 0 0) 0 [] := by
  subst hb
  have := own_lit w [] e base hbase (by decide)
  simpa using this

theorem ret_eq {v v' : Value} (h : v = v') : Ending.returned v = .returned v' := by rw [h]
theorem ret_int {k : IntKind} {a b : Int} (h : a = b) : Ending.returned (.int k a) = .returned (.int k b) := by rw [h]

theorem bytes_lit (w : World) (l : List UInt8) (e : TypeId) (fr : Nat × Nat) : Bytes (w.alloc (.cells (l.map bv).toArray e fr)) (some ⟨w.heap.size, 0, none⟩) l := fun _ =>
  ⟨w.heap.size, 0, rfl, by simp, fun j hj => by rw [Nat.zero_add, World.cell?_alloc_mark]; simp [List.getElem?_eq_getElem hj]⟩

/-- what a call leaves that hands back true and turns nothing that was there -/
def Yes (w : World) (e : Ending) (w' : World) : Prop := e = .returned (.bool true) ∧ Below w.heap.size w w'
theorem toNat_lt (c : UInt8) : c.toNat < 256 := c.toNat_lt
theorem results_tmp4 {fn : Func} {t u v x : Tmp} (h : fn.results = #[.tmp t, .tmp u, .tmp v, .tmp x]) (tmps : Array Value) (P : Program) (w : World) :
    (results fn tmps).run P w = .ok (.tuple #[tmps.getD t undef, tmps.getD u undef, tmps.getD v undef, tmps.getD x undef]) w := by
  simp [results, h]
end Go.Proofs.Ytjbcmepnlnfkjaa
