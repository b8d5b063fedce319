/-
  THE LAWS' OWN MODEL OF A BAG in memory (ModAt): two messages, two pairs compared; CONTRACT of its 'parted'. No condition of its own.
-/
import Derived.Test.YtjbcmepnlnfkjaaBgQ
import Derived.DeepKeys
namespace Go.Proofs.Ytjbcmepnlnfkjaa
open Go Go.RowKit Go.Proofs

/-! two pairs, two messages compared -/
def peq (a b c d : Int) : Bool := decide (a = c ∧ b = d)
theorem lits_pair {a b : Int} (ha : InI64 a) (hb : InI64 b) : Try.prog.keyLits 3 59 (Value.agg #[.int .i64 a, .int .i64 b]).cells.toList = some [.int .i64 a, .int .i64 b] := by
  have w1 := wf_i64 ha
  have w2 := wf_i64 hb
  have c3 : Try.prog.cellsOf 3 = 1 := by kernel_rfl
  have c59 : Try.prog.cellsOf 59 = 2 := by kernel_rfl
  unfold Program.keyLits
  simp only [Try.underlying59, Value.cells]
  rw [if_pos (by rw [c59]; rfl), show List.range 2 = [0, 1] from rfl]
  simp [Program.keyLits, Try.underlying3, c3, w1, w2]
theorem eql_pair (w : World) {a b c d : Int} (ha : InI64 a) (hb : InI64 b) (hc : InI64 c) (hd : InI64 d) :
    (binOp .eql 59 (.agg #[.int .i64 a, .int .i64 b]) (.agg #[.int .i64 c, .int .i64 d])).run Try.prog w = .ok (.bool (peq a b c d)) w := by
  have c59 : Try.prog.cellsOf 59 = 2 := by kernel_rfl
  obtain ⟨r, hr, hiff⟩ := run_equalIn_deep (P := Try.prog) 9997 3 59 (by kernel_rfl) w 3 3 (.agg #[.int .i64 a, .int .i64 b]) (.agg #[.int .i64 c, .int .i64 d]) _ _ (by simp [Value.formed, Try.underlying59, c59]) (by simp [Value.formed, Try.underlying59, c59]) (lits_pair ha hb) (lits_pair hc hd)
  have hrp : r = peq a b c d := by
    unfold peq
    rw [Bool.eq_iff_iff, hiff, decide_eq_true_iff]
    simp
  simp only [binOp]
  simp [Op.equal, Op.maxDepth, hr, hrp]
theorem lits_msg {x : Msg} (hx : MOk x) : Try.prog.keyLits 3 32 (mkey x).cells.toList = some [.int .i64 x.1, .int .i64 x.2.1, .string x.2.2] := by
  obtain ⟨xf, xt, xb⟩ := x
  obtain ⟨h1, h2, h3⟩ := hx
  have w1 := wf_i64 h1
  have w2 := wf_i64 h2
  have h4 : (text xb).size ≤ maxLen := by rw [text_size]; exact h3
  have h5 : (text xb).data.toList = xb := by simp [text]
  have c3 : Try.prog.cellsOf 3 = 1 := by kernel_rfl
  have c9 : Try.prog.cellsOf 9 = 1 := by kernel_rfl
  have c32 : Try.prog.cellsOf 32 = 3 := by kernel_rfl
  unfold Program.keyLits mkey
  simp only [Try.underlying32, Value.cells]
  rw [if_pos (by rw [c32]; exact ⟨rfl, by kernel_rfl⟩)]
  simp [Program.keyLits, Try.underlying3, Try.underlying9, c3, c9, w1, w2, h4, h5]
theorem equal_msg (w : World) {x : Msg} (hx : MOk x) : (Op.equal 32 (mkey x) (mkey x)).run Try.prog w = .ok true w := by
  have c32 : Try.prog.cellsOf 32 = 3 := by kernel_rfl
  obtain ⟨r, hr, hiff⟩ := run_equalIn_deep (P := Try.prog) 9997 3 32 (by kernel_rfl) w 3 3 (mkey x) (mkey x) _ _ (by simp [mkey, Value.formed, Try.underlying32, c32]) (by simp [mkey, Value.formed, Try.underlying32, c32]) (lits_msg hx) (lits_msg hx)
  have : r = true := hiff.2 rfl
  subst this
  exact hr
theorem eql_msg (w : World) {x : Msg} (hx : MOk x) : (binOp .eql 32 (mkey x) (mkey x)).run Try.prog w = .ok (.bool true) w := by
  have h := equal_msg w hx
  unfold mkey at h ⊢
  simp only [binOp]
  simp [h]
theorem neq_msg (w : World) {x : Msg} (hx : MOk x) : (binOp .neq 32 (mkey x) (mkey x)).run Try.prog w = .ok (.bool false) w := by
  have h := equal_msg w hx
  unfold mkey at h ⊢
  simp only [binOp]
  simp [h]

/-! the model's memory -/
def flatS : List Msg → List Value
  | [] => []
  | x :: l => .int .i64 x.1 :: .int .i64 x.2.1 :: .string (text x.2.2) :: flatS l
def flatP : List (Int × Int) → List Value
  | [] => []
  | x :: l => .int .i64 x.1 :: .int .i64 x.2 :: flatP l
theorem flatS_length : ∀ l : List Msg, (flatS l).length = l.length * 3
  | [] => rfl
  | _ :: l => by simp [flatS, flatS_length l]; omega
theorem flatS_append : ∀ l l' : List Msg, flatS (l ++ l') = flatS l ++ flatS l'
  | [], _ => rfl
  | _ :: l, l' => by simp [flatS, flatS_append l l']
theorem flatS_at : ∀ (l : List Msg) (i : Nat) (hi : i < l.length), (flatS l)[i * 3]? = some (.int .i64 l[i].1) ∧ (flatS l)[i * 3 + 1]? = some (.int .i64 l[i].2.1) ∧ (flatS l)[i * 3 + 2]? = some (.string (text l[i].2.2))
  | _ :: _, 0, _ => by simp [flatS]
  | _ :: l, i + 1, hi => by
    have := flatS_at l i (by simpa using hi)
    simpa [flatS, Nat.add_mul] using this
  | [], _, hi => by simp at hi
theorem flatS_take : ∀ (l : List Msg) (k : Nat), (flatS l).take (k * 3) = flatS (l.take k)
  | _ :: _, 0 => by simp [flatS]
  | _ :: l, k + 1 => by simp [flatS, Nat.add_mul, flatS_take l k]
  | [], k => by simp [flatS]
theorem flatS_drop : ∀ (l : List Msg) (k : Nat), (flatS l).drop (k * 3) = flatS (l.drop k)
  | _ :: _, 0 => by simp
  | _ :: l, k + 1 => by simp [flatS, Nat.add_mul, flatS_drop l k]
  | [], k => by simp [flatS]
theorem flatS_one : ∀ l : List Msg, ∀ u ∈ flatS l, u.oneCell' = true
  | [], _, h => by simp [flatS] at h
  | _ :: l, u, h => by
    simp only [flatS, List.mem_cons] at h
    rcases h with rfl | rfl | rfl | h
    · rfl
    · rfl
    · rfl
    · exact flatS_one l u h
theorem flatP_length : ∀ l : List (Int × Int), (flatP l).length = l.length * 2
  | [] => rfl
  | _ :: l => by simp [flatP, flatP_length l]; omega
theorem flatP_append : ∀ l l' : List (Int × Int), flatP (l ++ l') = flatP l ++ flatP l'
  | [], _ => rfl
  | _ :: l, l' => by simp [flatP, flatP_append l l']
theorem flatP_at : ∀ (l : List (Int × Int)) (i : Nat) (hi : i < l.length), (flatP l)[i * 2]? = some (.int .i64 l[i].1) ∧ (flatP l)[i * 2 + 1]? = some (.int .i64 l[i].2)
  | _ :: _, 0, _ => by simp [flatP]
  | _ :: l, i + 1, hi => by
    have := flatP_at l i (by simpa using hi)
    simpa [flatP, Nat.add_mul] using this
  | [], _, hi => by simp at hi

/-- the model's block -/
def MBlk (w : World) (q : Nat) (Lm Lp : Value) : Prop := w.heap[q]? = some (.cells #[Lm, Lp] 43)
/-- THE MODEL AT q: its messages, its pairs; its rows made from B on -/
def ModAt (w : World) (B q : Nat) (ms : List Msg) (ps : List (Int × Int)) : Prop :=
  ∃ Lm Lp, MBlk w q Lm Lp ∧ B ≤ q ∧ w.ownsRow B 32 3 Lm ms.length (flatS ms) ∧ w.ownsRow B 59 2 Lp ps.length (flatP ps) ∧ (∀ x ∈ ms, MOk x) ∧ ∀ x ∈ ps, InI64 x.1 ∧ InI64 x.2
theorem MBlk.lt {w : World} {q : Nat} {Lm Lp : Value} (h : MBlk w q Lm Lp) : q < w.heap.size := (Array.getElem?_eq_some_iff.1 h).1
theorem MBlk.c0 {w : World} {q : Nat} {Lm Lp : Value} (h : MBlk w q Lm Lp) : w.cell? ⟨q, 0, none⟩ = some Lm := by unfold World.cell?; simp [show w.heap[q]? = _ from h]
theorem MBlk.c1 {w : World} {q : Nat} {Lm Lp : Value} (h : MBlk w q Lm Lp) : w.cell? ⟨q, 1, none⟩ = some Lp := by unfold World.cell?; simp [show w.heap[q]? = _ from h]
theorem MBlk.fz {w : World} {q : Nat} {Lm Lp : Value} (h : MBlk w q Lm Lp) (i : Nat) : w.frozen? ⟨q, i, none⟩ = false := by unfold World.frozen?; simp [show w.heap[q]? = _ from h]
theorem MBlk.set0 {w : World} {q : Nat} {Lm Lp : Value} (h : MBlk w q Lm Lp) (L' : Value) : MBlk (w.setCell ⟨q, 0, none⟩ L') q L' Lp := by
  have h' : w.heap[q]? = _ := h
  show (w.heap.modify _ _)[q]? = _
  rw [Array.getElem?_modify, if_pos rfl, h']
  rfl
theorem MBlk.set1 {w : World} {q : Nat} {Lm Lp : Value} (h : MBlk w q Lm Lp) (L' : Value) : MBlk (w.setCell ⟨q, 1, none⟩ L') q Lm L' := by
  have h' : w.heap[q]? = _ := h
  show (w.heap.modify _ _)[q]? = _
  rw [Array.getElem?_modify, if_pos rfl, h']
  rfl
/-- a row that stays with its block -/
theorem own_same {w w' : World} {B : Nat} {e : TypeId} {s n : Nat} {v : Value} {xs : List Value} (h : w.ownsRow B e s v n xs) (hk : ∀ (k : Nat) (c : Array Value) (fr : Nat × Nat), w.heap[k]? = some (Obj.cells c e fr) → w'.heap[k]? = w.heap[k]?) : w'.ownsRow B e s v n xs := by
  refine ⟨h.1, ?_⟩
  rcases h.2 with h0 | ⟨q, cap, cur, e, hq, hg, r⟩
  · exact .inl h0
  · exact .inr ⟨q, cap, cur, e, hq, (hk q _ _ hg).trans hg, r⟩
/-- the model stays where blocks of its three kinds do -/
theorem ModAt.keep {w w' : World} {B q : Nat} {ms : List Msg} {ps : List (Int × Int)} (h : ModAt w B q ms ps) (hk : ∀ (k : Nat) (c : Array Value) (t : TypeId) (fr : Nat × Nat), w.heap[k]? = some (Obj.cells c t fr) → (t = 43 ∨ t = 32 ∨ t = 59) → w'.heap[k]? = w.heap[k]?) : ModAt w' B q ms ps := by
  obtain ⟨Lm, Lp, h1, h2, h3, h4, h5, h6⟩ := h
  exact ⟨Lm, Lp, (hk q _ _ _ h1 (.inl rfl)).trans h1, h2, own_same h3 (fun k c fr hc => hk k c _ fr hc (.inr (.inl rfl))), own_same h4 (fun k c fr hc => hk k c _ fr hc (.inr (.inr rfl))), h5, h6⟩
theorem ModAt.below {w w' : World} {B q : Nat} {ms : List Msg} {ps : List (Int × Int)} (h : ModAt w B q ms ps) (hb : Below w.heap.size w w') : ModAt w' B q ms ps :=
  h.keep fun k _ _ _ hc _ => hb.block k (Array.getElem?_eq_some_iff.1 hc).1
theorem ModAt.beside {w w' : World} {B q m : Nat} {ms : List Msg} {ps : List (Int × Int)} (h : ModAt w B q ms ps) (hb : Beside m w w') (hm : IsMp w m) : ModAt w' B q ms ps :=
  h.keep fun k _ _ _ hc ht => hb.block k (Array.getElem?_eq_some_iff.1 hc).1 (fun e => by
    obtain ⟨es, cl, hm⟩ := hm
    rw [e, hm] at hc
    cases hc) (fun c' fr' => by
      rw [hc]
      constructor
      · intro e
        injection e with e
        injection e with _ e _
        subst e
        simp at ht
      · intro e
        injection e with e
        injection e with _ e _
        subst e
        simp at ht)

/-- whether two are parted, by the pairs -/
def hit (a b : Int) (p : Int × Int) : Bool := peq p.1 p.2 a b || peq p.1 p.2 b a
def ptd (ps : List (Int × Int)) (a b : Int) : Bool := ps.any (hit a b) && decide (a ≠ b)

set_option maxRecDepth 20000 in
set_option maxHeartbeats 800000 in
/-- (*model).parted -/
theorem mparted_any (B q : Nat) (ms : List Msg) (ps : List (Int × Int)) (a b : Int) (w : World) (h : ModAt w B q ms ps) (ha : InI64 a) (hb : InI64 b) (hl : ps.length ≤ 1000000) :
    Calls Try.prog 18 #[.pointer (some ⟨q, 0, none⟩), .int .i64 a, .int .i64 b] w fun e w' => e = .returned (.bool (ptd ps a b)) ∧ w = w' := by
  obtain ⟨Lm, Lp, h1, h2, h3, h4, h5, h6⟩ := h
  have c1 := h1.c1
  have HA := Lib.hid ha; clear ha
  have HB := Lib.hid hb; clear hb
  have HROW := Lib.hid h4
  obtain ⟨AL, cL, rfl, hkc, hkm⟩ : ∃ AL cL, Lp = .slice AL ps.length cL ∧ ps.length ≤ cL ∧ cL ≤ maxLen := by
    rcases h4.2 with ⟨e, h0⟩ | ⟨q, cap, cur, e, _, _, a, b, _⟩
    · exact ⟨none, 0, by rw [e, h0], by omega, by omega⟩
    · exact ⟨_, cap, e, a, b⟩
  have HOK := Lib.hid h6
  clear h1 h2 h3 h4 h5 h6 hkc hkm
  obtain ⟨n, hn⟩ : ∃ n, ps.length = n := ⟨_, rfl⟩
  rw [hn] at c1 hl HROW
  have HN := Lib.hid hn; clear hn
  go_enter Try.func18, Try.ntmps18
  go_wp2_with fail
  go_loop [7] (fun y => ∃ i : Nat, y = .int .i64 i ∧ i ≤ n ∧ (ps.take i).any (hit a b) = false) (fun y => n - (intOf y).toNat)
  case atStart => exact ⟨0, rfl, Nat.zero_le _, by simp⟩
  case round =>
    obtain ⟨i, rfl, hin, hno⟩ := hrel
    have HNO := Lib.hid hno; clear hno
    by_cases hlt : i < n
    · have hi : i < ps.length := by rw [HN.out]; exact hlt
      obtain ⟨g0, cap0, hv0, _, _, _, _⟩ := own_form HROW.out (by omega)
      injection hv0 with hA _ hc
      subst hA hc
      obtain ⟨f0, f1⟩ := flatP_at ps i hi
      have q0 := HROW.out.cells (g := g0) rfl _ _ f0
      have q1 := HROW.out.cells (g := g0) rfl _ _ f1
      rw [add_plain, Nat.zero_add] at q0 q1
      have hm := HOK.out ps[i] (List.getElem_mem hi)
      have hsn : ps.take (i + 1) = ps.take i ++ [ps[i]] := List.take_succ_eq_append_getElem hi
      have HMT : Hid (hit a b ps[i] = true → (a != b) = ptd ps a b) := by
        intro hh
        have h0 : ps.any (hit a b) = true := List.any_eq_true.2 ⟨_, List.getElem_mem hi, hh⟩
        unfold ptd
        rw [h0, Bool.true_and, bne, Bool.eq_iff_iff]
        simp
      have HS : Hid ((ps.take (i + 1)).any (hit a b) = ((ps.take i).any (hit a b) || hit a b ps[i])) := by
        show _ = _
        rw [hsn, List.any_append]
        simp
      clear hsn f0 f1
      generalize ps[i] = p at *
      clear hi
      obtain ⟨pa, pb⟩ := p
      have e1 := fun w => eql_pair w hm.1 hm.2 HA.out HB.out
      have e2 := fun w => eql_pair w hm.1 hm.2 HB.out HA.out
      simp only at e1 e2 q0 q1
      have HM := Lib.hid hm; clear hm
      have HH : Hid (hit a b (pa, pb) = (peq pa pb a b || peq pa pb b a)) := rfl
      cases hp1 : peq pa pb a b
      · cases hp2 : peq pa pb b a
        · rw [hp1] at e1
          rw [hp2] at e2
          have HP := Lib.hid hp1
          have HP' := Lib.hid hp2
          clear hp1 hp2
          go_wp2_with fail
          go_round
          case rel => exact ⟨i + 1, by go_num, by omega, by rw [HS.out, HNO.out, HH.out, HP.out, HP'.out]; rfl⟩
          case measure => simp [intOf]; omega
        · rw [hp1] at e1
          rw [hp2] at e2
          have HP := Lib.hid hp1
          have HP' := Lib.hid hp2
          clear hp1 hp2
          go_wp2_with fail
          go_ret
          exact ⟨ret_eq (congrArg Value.bool (HMT.out (by rw [HH.out, HP'.out, Bool.or_true]))), rfl⟩
      · rw [hp1] at e1
        have HP := Lib.hid hp1
        clear hp1 e2
        go_wp2_with fail
        go_ret
        exact ⟨ret_eq (congrArg Value.bool (HMT.out (by rw [HH.out, HP.out, Bool.true_or]))), rfl⟩
    · go_wp2_with fail
      go_ret
      have hnn : ps.take i = ps := List.take_of_length_le (by have := HN.out; omega)
      have h0 : ptd ps a b = false := by
        have := HNO.out
        rw [hnn] at this
        unfold ptd
        rw [this, Bool.false_and]
      exact ⟨ret_eq (congrArg Value.bool h0.symm), rfl⟩
end Go.Proofs.Ytjbcmepnlnfkjaa
