/-
  CONTRACTS of bag.New, the method 'is', Len, slices.Clone, pair, Look.
-/
import Derived.Test.YtjbcmepnlnfkjaaBgA
import Derived.WalkLawsBesides
import Derived.WideMake
namespace Go.Proofs.Ytjbcmepnlnfkjaa
open Go Go.RowKit Go.Proofs

theorem run_equalIn_map_nil {P : Program} (w : World) (d : Nat) (t k e : TypeId) (a : Option Nat) (h : P.underlying t = some (.map k e)) : (Op.equalIn (d + 1) t (.map a) (.map none)).run P w = .ok a.isNone w := by
  cases a <;> simp [Op.equalIn, run_underlying h]
theorem run_map_nil (w : World) (m : Nat) : (binOp BinOp.neq 48 (.map (some m)) (.map none)).run Try.prog w = .ok (.bool true) w := by
  simp only [binOp]
  simp [Op.equal, Op.maxDepth, run_equalIn_map_nil (P := Try.prog) w 9999 48 59 4 (some m) Try.underlying48]

set_option maxHeartbeats 400000 in
/-- (*Bag).is -/
theorem is_any (g m : Nat) (L : Value) (w : World) (hb : Blk w g m L) : Calls Try.prog 23 #[.pointer (some ⟨g, 0, none⟩)] w fun e w' => e = .returned (.bool true) ∧ w = w' := by
  have c1 := hb.c1
  have mn := fun w => run_map_nil w m
  go_enter Try.func23, Try.ntmps23
  go_wp2
  go_ret
  exact ⟨rfl, rfl⟩

set_option maxHeartbeats 400000 in
/-- (*Bag).Len -/
theorem len_any (B : Nat) (P : Nat → Prop) (g m : Nat) (ms : List Msg) (w : World) (h : BagAt w B P g m ms) : Calls Try.prog 16 #[.pointer (some ⟨g, 0, none⟩)] w fun e w' => e = .returned (.int .i64 ((ms.length : Nat) : Int)) ∧ w = w' := by
  obtain ⟨L, vs, h1, h2, h3, h4, h5⟩ := h
  have HI := Lib.hid (is_any g m L w h1)
  rcases h3.2 with ⟨rfl, h0⟩ | ⟨q, cap, cur, rfl, _⟩
  · have c0 := h1.c0
    rw [h0]
    clear h1 h2 h3 h4 h5 h0
    go_enter Try.func16, Try.ntmps16
    go_wp2_with fail
    refine HI.out.mono ?_
    rintro e w1 ⟨rfl, rfl⟩
    go_wp2_with fail
    go_ret
    exact ⟨rfl, rfl⟩
  · have c0 := h1.c0
    clear h1 h2 h3 h4 h5
    go_enter Try.func16, Try.ntmps16
    go_wp2_with fail
    refine HI.out.mono ?_
    rintro e w1 ⟨rfl, rfl⟩
    go_wp2_with fail
    go_ret
    exact ⟨rfl, rfl⟩

/-- what a call that hands back bytes of its own leaves -/
def Own (w : World) (l : List UInt8) (e : Ending) (w' : World) : Prop :=
  ∃ v, e = .returned v ∧ w'.ownsRow w.heap.size 5 1 v l.length (l.map bv) ∧ Below w.heap.size w w'

set_option maxHeartbeats 400000 in
/-- slices.Clone -/
theorem clone_any (A : Option Addr) (n c : Nat) (l : List UInt8) (w : World) (hn : l.length = n) (hl : n ≤ 140737488355328) (hB : Bytes w A l) :
    Calls Try.prog 22 #[.slice A n c] w (Own w l) := by
  obtain ⟨i0, hi, hz0, hz1, hz2⟩ := info_parts info5
  rcases A with _ | a
  · have he : l = [] := by
      rcases Nat.eq_zero_or_pos l.length with h0 | h0
      · exact List.eq_nil_of_length_eq_zero h0
      · obtain ⟨_, _, e, _⟩ := hB h0; cases e
    subst he
    have hn0 : n = 0 := by simpa using hn.symm
    subst hn0
    clear hn hB
    have qN := fun W => Lib.run_eql_slice_nil W 26 5 none 0 c 0 0 Try.underlying26
    go_enter Try.func22, Try.ntmps22
    go_wp2
    go_ret
    exact ⟨_, rfl, World.ownsRow_nil _ _ _ _, Below.refl _ _⟩
  · subst hn
    have qN := fun W => Lib.run_eql_slice_nil W 26 5 (some a) l.length c 0 0 Try.underlying26
    have HC := Lib.hid hB; clear hB
    go_enter Try.func22, Try.ntmps22
    go_wp2_with (at_builtin; refine wpList_append_bytes _ rfl _ _ 26 rfl w.heap.size 5 i0 (.int .u8 0) Try.underlying26 hi hz0 hz1 hz2 rfl _ 0 [] rfl (own_lit _ [] 5 _ (Nat.le_refl _) (by decide)) _ _ _ l rfl rfl (HC.out.alloc _) (by omega) (by simp) ?_)
    intro v1 w1 hown hg
    have HO := Lib.hid hown; clear hown
    have HG := Lib.hid (((Below.refl w.heap.size w).alloc (Nat.le_refl _) _).grown hg (by simp) (by simp [Value.ownBlock])); clear hg
    go_wp2
    go_ret
    exact ⟨_, rfl, by simpa using HO.out, HG.out⟩

set_option maxHeartbeats 400000 in
/-- New -/
theorem new_any (w : World) (P : Nat → Prop) : Calls Try.prog 8 #[] w fun e w' => ∃ g m, e = .returned (.pointer (some ⟨g, 0, none⟩)) ∧ m = w.heap.size ∧ BagAt w' w.heap.size P g m [] ∧ w'.heap[m]? = some (.map #[] 0) ∧ Below w.heap.size w w' := by
  have mk := fun (w : World) => run_makeMap_plain (P := Try.prog) w 48
  go_enter Try.func8, Try.ntmps8
  go_wp2
  go_ret
  refine ⟨_, _, rfl, rfl, ⟨.slice none 0 0, [], (by have h := heap_alloc_new (w.alloc (Obj.map #[] 0)) (Obj.cells #[Value.slice none 0 0, Value.map (some w.heap.size)] 50); rwa [show (w.alloc (Obj.map #[] 0)).heap.size = w.heap.size + 1 by simp] at h), by simp, World.ownsRow_nil _ _ _ _, trivial, by simp⟩, ?_, ?_⟩
  · rw [heap_alloc_old _ _ (by simp)]
    exact heap_alloc_new w _
  · exact ((Below.refl _ _).alloc (Nat.le_refl _) _).alloc (by simp) _

theorem results_cell1 {fn : Func} {p : Tmp} {ty : TypeId} (h : fn.results = #[.cell p ty]) (tmps : Array Value) (P : Program) (w : World) :
    (results fn tmps).run P w = ((asAddr (tmps.getD p undef)).run P w).andThen fun a w₁ => (loadVar ty a).run P w₁ := by
  simp only [results, h]
  simp [Sem.run_bind, Result.andThen]

set_option maxHeartbeats 400000 in
/-- pair -/
theorem pair_any (a b : Int) (w : World) : Calls Try.prog 26 #[.int .i64 a, .int .i64 b] w fun e w' => e = .returned (.agg #[.int .i64 (min a b), .int .i64 (max a b)]) ∧ Below w.heap.size w w' := by
  go_enter Try.func26, Try.ntmps26
  go_wp2_with fail
  · refine bodyPost_ret (v := .agg #[.int .i64 b, .int .i64 a]) (by rw [results_cell1 rfl]; go_simp) rfl ⟨by rw [show min a b = b by omega, show max a b = a by omega], (Below.refl _ _).alloc (Nat.le_refl _) _⟩
  · refine bodyPost_ret (v := .agg #[.int .i64 a, .int .i64 b]) (by rw [results_cell1 rfl]; go_simp) rfl ⟨by rw [show min a b = a by omega, show max a b = b by omega], (Below.refl _ _).alloc (Nat.le_refl _) _⟩
  · obtain rfl : a = b := by omega
    refine bodyPost_ret (v := .agg #[.int .i64 a, .int .i64 a]) (by rw [results_cell1 rfl]; go_simp) rfl ⟨by rw [show min a a = a by omega, show max a a = a by omega], (Below.refl _ _).alloc (Nat.le_refl _) _⟩
end Go.Proofs.Ytjbcmepnlnfkjaa
