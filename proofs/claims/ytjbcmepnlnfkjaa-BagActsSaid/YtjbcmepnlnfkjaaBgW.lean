/-
  A BAG BESIDE THE LAWS' OWN MODEL OF IT (AW): how the two stay and turn; whether they agree on who is parted. No condition of its own.
-/
import Derived.Test.YtjbcmepnlnfkjaaBgU
import Derived.Test.YtjbcmepnlnfkjaaBgX
namespace Go.Proofs.Ytjbcmepnlnfkjaa
open Go Go.RowKit Go.Proofs

/-- the model with another row of pairs -/
theorem repair {w w1 : World} {B q n : Nat} {Lm Lp L' : Value} {xs : List Value} {ms : List Msg} {ps' : List (Int × Int)} {row : Option Nat}
    (h : MBlk w q Lm Lp) (hBq : B ≤ q) (hp : w.ownsRow B 32 3 Lm n xs) (hn : n = ms.length) (hx : xs = flatS ms) (hg : w.grownBy w1 row) (hrow : ∀ k, row = some k → B ≤ k ∧ (k < w.heap.size → ∃ c fr, w.heap[k]? = some (.cells c 59 fr)))
    (hr : w1.ownsRow B 59 2 L' ps'.length (flatP ps')) (hm : ∀ x ∈ ms, MOk x) (hps : ∀ x ∈ ps', InI64 x.1 ∧ InI64 x.2) (hBs : B ≤ w.heap.size) :
    MTurn w B q ms ps' (w1.setCell ⟨q, 1, none⟩ L') ∧ MBlk w1 q Lm Lp := by
  subst hn hx
  have hside : ∀ k c t fr, w.heap[k]? = some (Obj.cells c t fr) → t ≠ 59 → some k ≠ row := by
    intro k c t fr hc ht e
    obtain ⟨_, h2⟩ := hrow k e.symm
    obtain ⟨c', fr', hk⟩ := h2 (Array.getElem?_eq_some_iff.1 hc).1
    rw [hc] at hk
    injection hk with hk
    injection hk with _ hk _
    exact ht hk
  have h1 : MBlk w1 q Lm Lp := (hg.block q h.lt (hside q _ _ _ h (by decide))).trans h
  have hne1 : L'.ownBlock ≠ some q := by
    intro e
    obtain ⟨cc, fr, hc⟩ := own_row_kind hr q e
    have := hc.symm.trans h1
    injection this with this
    injection this with _ this _
    cases this
  have hp1 : w1.ownsRow B 32 3 Lm ms.length (flatS ms) := own_same hp (fun k c fr hc => hg.block k (Array.getElem?_eq_some_iff.1 hc).1 (hside k _ _ _ hc (by decide)))
  have hne2 : Lm.ownBlock ≠ some q := by
    intro e
    obtain ⟨cc, fr, hc⟩ := own_row_kind hp1 q e
    have := hc.symm.trans h1
    injection this with this
    injection this with _ this _
    cases this
  refine ⟨⟨⟨Lm, L', h1.set1 _, hBq, ownsRow_setCell_other hp1 hne2 _, ownsRow_setCell_other hr hne1 _, hm, hps⟩, ?_, ?_⟩, h1⟩
  · exact ((Below.refl B w).grown hg hBs (fun k hk => (hrow k hk).1)).setCell (p := ⟨q, 1, none⟩) hBq _
  · refine ModSide.trans ⟨hg.size, fun k hk hf => hg.block k hk (fun e => ?_)⟩ (ModSide.set h1 _)
    obtain ⟨c, fr, hc⟩ := (hrow k e.symm).2 hk
    exact (hf c _ fr hc).2.2 rfl

/-- the bag at g with its map m, the model at q -/
structure AW (w0 : World) (g m q n : Nat) (S : Int → Int → Bool) (ms ms' : List Msg) (ps : List (Int × Int)) (u : World) : Prop where
  bag : BagAt u w0.heap.size Any g m ms
  pm : PMap u m n S
  mod : ModAt u w0.heap.size q ms' ps
  hm : w0.heap.size ≤ m
  below : Below w0.heap.size w0 u
section
variable {w0 u u' : World} {g m q n : Nat} {S : Int → Int → Bool} {ms ms' : List Msg} {ps : List (Int × Int)}
theorem AW.size (h : AW w0 g m q n S ms ms' ps u) : w0.heap.size ≤ u.heap.size := h.below.size
theorem AW.step (h : AW w0 g m q n S ms ms' ps u) (hb : Below u.heap.size u u') : AW w0 g m q n S ms ms' ps u' :=
  ⟨h.bag.below hb, h.pm.below hb, h.mod.below hb, h.hm, h.below.trans (hb.mono h.size)⟩
theorem AW.drew (h : AW w0 g m q n S ms ms' ps u) : AW w0 g m q n S ms ms' ps u.drew := h.step (Below.refl _ _).drew
theorem AW.turned (h : AW w0 g m q n S ms ms' ps u) {ms2 : List Msg} (ht : Turned u w0.heap.size Any g m ms2 u') : AW w0 g m q n S ms2 ms' ps u' :=
  ⟨ht.1, h.pm.same ht.2.2.2, h.mod.beside ht.2.2.1 h.pm.isMp, h.hm, h.below.trans ht.2.1⟩
theorem AW.mturn (h : AW w0 g m q n S ms ms' ps u) {ms2 : List Msg} {ps2 : List (Int × Int)} (ht : MTurn u w0.heap.size q ms2 ps2 u') : AW w0 g m q n S ms ms2 ps2 u' := by
  refine ⟨h.bag.other (fun k c t fr hk hkt => ht.2.2.2 k (Array.getElem?_eq_some_iff.1 hk).1 (fun c' t' fr' hc => ?_)), h.pm.same (ht.2.2.2 m h.pm.lt (fun c t fr hc => ?_)), ht.1, h.hm, h.below.trans ht.2.1⟩
  · rw [hk] at hc
    injection hc with hc
    injection hc with _ hc _
    subst hc
    rcases hkt with rfl | rfl | rfl <;> decide
  · obtain ⟨es, cl, hm⟩ := h.pm.isMp
    rw [hm] at hc
    cases hc
theorem AW.map (h : AW w0 g m q n S ms ms' ps u) {n2 : Nat} {S2 : Int → Int → Bool} (hp : PMap u' m n2 S2) (hb : Below w0.heap.size u u') (ho : OnlyMap m u u') : AW w0 g m q n2 S2 ms ms' ps u' :=
  ⟨ho.bag h.bag h.pm.isMp, hp, ho.model h.mod h.pm.isMp, h.hm, h.below.trans hb⟩
/-- a cell of another block -/
theorem cell_mturn {B : Nat} {ms2 : List Msg} {ps2 : List (Int × Int)} (ht : MTurn u B q ms2 ps2 u') {b o : Nat} {v : Value} {cs : Array Value} {t : TypeId} {fr : Nat × Nat} (hb : u.heap[b]? = some (.cells cs t fr)) (h1 : t ≠ 43 ∧ t ≠ 32 ∧ t ≠ 59) (h : u.cell? ⟨b, o, none⟩ = some v) : u'.cell? ⟨b, o, none⟩ = some v := by
  have e := ht.2.2.2 b (Array.getElem?_eq_some_iff.1 hb).1 (fun c' t' fr' hc => (by
    rw [hb] at hc
    injection hc with hc
    injection hc with _ hc _
    subst hc
    exact h1))
  unfold World.cell? at h ⊢
  simp only at h ⊢
  rw [e]
  exact h
theorem cell_map (ho : OnlyMap m u u') (hm : IsMp u m) {b o : Nat} {v : Value} (h : u.cell? ⟨b, o, none⟩ = some v) : u'.cell? ⟨b, o, none⟩ = some v := by
  obtain ⟨es, cl, hm⟩ := hm
  have hlt := World.block_lt_of_cell? u _ h
  have hne : b ≠ m := by
    intro e
    subst e
    unfold World.cell? at h
    simp only [hm] at h
    cases h
  have e := ho.2 b hlt hne
  unfold World.cell? at h ⊢
  simp only at h ⊢
  rw [e]
  exact h
end

/-- a block that is a box: no bag's, no model's, no bytes -/
def Box (u : World) (b : Nat) (cs : Array Value) : Prop := u.heap[b]? = some (.cells cs 28)
section
variable {w0 u u' : World} {g m q n : Nat} {S : Int → Int → Bool} {ms ms' ms2 : List Msg} {ps ps2 : List (Int × Int)} {b : Nat} {cs : Array Value}
theorem Box.c (h : Box u b cs) (o : Nat) : u.cell? ⟨b, o, none⟩ = cs[o]? := by unfold World.cell?; simp [show u.heap[b]? = _ from h]
theorem Box.lt (h : Box u b cs) : b < u.heap.size := (Array.getElem?_eq_some_iff.1 h).1
theorem Box.step (h : Box u b cs) (hb : Below u.heap.size u u') : Box u' b cs := (hb.block b h.lt).trans h
theorem Box.turned {B : Nat} {P : Nat → Prop} (h : Box u b cs) (hm : IsMp u m) (ht : Turned u B P g m ms2 u') : Box u' b cs := by
  have h' : u.heap[b]? = _ := h
  refine (ht.2.2.1.block b h.lt (fun e => ?_) (fun c fr => ⟨fun e => ?_, fun e => ?_⟩)).trans h
  · obtain ⟨es, cl, hm⟩ := hm
    rw [e, hm] at h'
    cases h'
  · rw [h'] at e
    injection e with e
    injection e with _ e _
    cases e
  · rw [h'] at e
    injection e with e
    injection e with _ e _
    cases e
theorem Box.mturn {B : Nat} (h : Box u b cs) (ht : MTurn u B q ms2 ps2 u') : Box u' b cs := by
  have h' : u.heap[b]? = _ := h
  refine (ht.2.2.2 b h.lt (fun c t fr hc => ?_)).trans h
  rw [h'] at hc
  injection hc with hc
  injection hc with _ hc _
  subst hc
  decide
theorem Box.grown (h : Box u b cs) {row : Option Nat} (hg : u.grownBy u' row) {t : TypeId} (ht : t ≠ 28) (hr : ∀ k, row = some k → ∃ c fr, u.heap[k]? = some (.cells c t fr)) : Box u' b cs := by
  have h' : u.heap[b]? = _ := h
  refine (hg.block b h.lt (fun e => ?_)).trans h
  obtain ⟨c, fr, hc⟩ := hr b e.symm
  rw [h'] at hc
  injection hc with hc
  injection hc with _ hc _
  exact ht hc.symm
theorem Box.set {Lm Lp : Value} (h : Box u b cs) (hm : MBlk u q Lm Lp) (i : Nat) (v : Value) : Box (u.setCell ⟨q, i, none⟩ v) b cs := by
  refine (setCell_other v (fun e => ?_)).trans h
  have h' : u.heap[b]? = _ := h
  have hm' : u.heap[q]? = _ := hm
  rw [e, hm'] at h'
  injection h' with h'
  injection h' with _ h' _
  cases h'
theorem Box.map (h : Box u b cs) (hm : IsMp u m) (ho : OnlyMap m u u') : Box u' b cs := by
  have h' : u.heap[b]? = _ := h
  refine (ho.2 b h.lt (fun e => ?_)).trans h
  obtain ⟨es, cl, hm⟩ := hm
  rw [e, hm] at h'
  cases h'
end

/-- a box of a message -/
def Trip (u : World) (b : Nat) (x y z : Value) : Prop := u.heap[b]? = some (.cells #[x, y, z] 32)
section
variable {u u' : World} {b : Nat} {x y z : Value}
theorem Trip.c (h : Trip u b x y z) (o : Nat) : u.cell? ⟨b, o, none⟩ = #[x, y, z][o]? := by unfold World.cell?; simp [show u.heap[b]? = _ from h]
theorem Trip.fz (h : Trip u b x y z) (o : Nat) : u.frozen? ⟨b, o, none⟩ = false := by unfold World.frozen?; simp [show u.heap[b]? = _ from h]
theorem Trip.lt (h : Trip u b x y z) : b < u.heap.size := (Array.getElem?_eq_some_iff.1 h).1
theorem Trip.step (h : Trip u b x y z) (hb : Below u.heap.size u u') : Trip u' b x y z := (hb.block b h.lt).trans h
theorem Trip.set0 (h : Trip u b x y z) (v : Value) : Trip (u.setCell ⟨b, 0, none⟩ v) b v y z := by
  have h' : u.heap[b]? = _ := h
  show (u.heap.modify _ _)[b]? = _
  rw [Array.getElem?_modify, if_pos rfl, h']
  rfl
theorem Trip.set1 (h : Trip u b x y z) (v : Value) : Trip (u.setCell ⟨b, 1, none⟩ v) b x v z := by
  have h' : u.heap[b]? = _ := h
  show (u.heap.modify _ _)[b]? = _
  rw [Array.getElem?_modify, if_pos rfl, h']
  rfl
theorem Trip.set2 (h : Trip u b x y z) (v : Value) : Trip (u.setCell ⟨b, 2, none⟩ v) b x y v := by
  have h' : u.heap[b]? = _ := h
  show (u.heap.modify _ _)[b]? = _
  rw [Array.getElem?_modify, if_pos rfl, h']
  rfl
end

/-- a box of a message written, that is no row of the model's -/
theorem AW.poke {w0 u : World} {g m q n : Nat} {S : Int → Int → Bool} {ms ms' : List Msg} {ps : List (Int × Int)} (h : AW w0 g m q n S ms ms' ps u) {Lm Lp : Value} (hq : MBlk u q Lm Lp) {b : Nat} {x y z : Value} (hb : Trip u b x y z) (hne : Lm.ownBlock ≠ some b) (hw : w0.heap.size ≤ b) (i : Nat) (v : Value) :
    AW w0 g m q n S ms ms' ps (u.setCell ⟨b, i, none⟩ v) ∧ MBlk (u.setCell ⟨b, i, none⟩ v) q Lm Lp := by
  have hb' : u.heap[b]? = _ := hb
  have hk : ∀ (k : Nat) (c : Array Value) (t : TypeId) (fr : Nat × Nat), u.heap[k]? = some (Obj.cells c t fr) → t ≠ 32 → k ≠ b := by
    intro k c t fr hc ht e
    rw [e, hb'] at hc
    injection hc with hc
    injection hc with _ hc _
    exact ht hc.symm
  have hqb : q ≠ b := hk q _ _ _ hq (by decide)
  have hm : MBlk (u.setCell ⟨b, i, none⟩ v) q Lm Lp := (setCell_other v hqb).trans hq
  refine ⟨⟨h.bag.other (fun k c t fr hc ht => setCell_other v (hk k c t fr hc (by rcases ht with rfl | rfl | rfl <;> decide))), h.pm.same (setCell_other v (fun e => ?_)), ?_, h.hm, h.below.setCell (p := ⟨b, i, none⟩) hw _⟩, hm⟩
  · obtain ⟨es, cl, hmm⟩ := h.pm.isMp
    rw [e, hb'] at hmm
    cases hmm
  · obtain ⟨Lm', Lp', h1, h2, h3, h4, h5, h6⟩ := h.mod
    have e := h1.symm.trans hq
    injection e with e
    injection e with e _ _
    have e0 := congrArg (fun l : Array Value => l.toList) e
    simp at e0
    obtain ⟨rfl, rfl⟩ := e0
    refine ⟨Lm', Lp', hm, h2, ownsRow_setCell_other h3 hne _, ownsRow_setCell_other h4 (fun e => ?_) _, h5, h6⟩
    obtain ⟨c, fr, hc⟩ := own_row_kind h4 b e
    exact hk b _ _ _ hc (by decide) rfl

/-- the two agree on who is parted -/
def Agree (S : Int → Int → Bool) (ps : List (Int × Int)) : Prop := ∀ a b, S (min a b) (max a b) = ptd ps a b
theorem Agree.nil : Agree none_ [] := fun _ _ => rfl
theorem Agree.more {S : Int → Int → Bool} {ps : List (Int × Int)} (h : Agree S ps) (a b : Int) : Agree (addp S a b) (ps ++ [(a, b)]) := by
  intro c d
  have hcd := h c d
  unfold addp
  unfold ptd at hcd ⊢
  rw [hcd, List.any_append]
  simp only [List.any_cons, List.any_nil, Bool.or_false]
  unfold hit peq
  generalize ps.any (fun p => decide (p.1 = c ∧ p.2 = d) || decide (p.1 = d ∧ p.2 = c)) = t at *
  rw [Bool.eq_iff_iff]
  simp only [Bool.or_eq_true, Bool.and_eq_true, decide_eq_true_eq]
  by_cases hcd' : c = d
  · subst hcd'
    simp
    intro hab h1 h2
    omega
  · constructor
    · rintro (⟨hab, h1, h2⟩ | h1)
      · refine ⟨.inr ?_, hcd'⟩
        omega
      · exact ⟨.inl h1.1, hcd'⟩
    · rintro ⟨h1 | h1, h2⟩
      · exact .inr ⟨h1, h2⟩
      · refine .inl ⟨?_, ?_⟩
        · omega
        · omega

theorem Agree.self {S : Int → Int → Bool} {ps : List (Int × Int)} (h : Agree S ps) (a b : Int) : addp S a b (min a b) (max a b) = (a != b) := by
  rw [h.more a b a b]
  unfold ptd
  rw [List.any_append]
  have e : hit a b (a, b) = true := by unfold hit peq; simp
  simp only [e, List.any_cons, Bool.true_or, Bool.or_true, Bool.true_and]
  rw [Bool.eq_iff_iff]
  simp
theorem cell_duo_new (w : World) (x y : Value) (t : TypeId) (b : Nat) (hb : b = w.heap.size) : ∀ j u, [x, y][j]? = some u → (w.alloc (.cells #[x, y] t)).cell? ((⟨b, 0, none⟩ : Addr).add j) = some u := by
  subst hb
  intro j u hj
  match j, hj with
  | 0, hj => simp at hj; subst hj; simp [Addr.add]
  | 1, hj => simp at hj; subst hj; simp [Addr.add]

theorem wpList_append_at {P : Program} {w : World} {ops : Array Oper} {rest : List Oper} {o : Oper} {a : Act} {Q : Exit → Act → World → Prop} (hg : o.guard = none) (s x : Operand) (t : TypeId)
    (ho : o.op = .call { callee := .builtin .append, args := #[s, x], argTypes := #[t, t] })
    (base : Nat) (e : TypeId) (i : TypeInfo) (z : Value) (size bytes : Nat) (ht : P.underlying t = some (.slice e)) (hi : P.info? e = some i) (hz : i.zero = some z)
    (hsize : i.size = size) (hby : i.bytes = bytes) (hzs : z.cells.size = size) (hsz : 0 < size)
    (v : Value) (n : Nat) (xs : List Value) (hs : a.eval s = v) (hown : w.ownsRow base e size v n xs)
    (ad : Addr) (m c : Nat) (news : List Value) (hx : a.eval x = .slice (some ad) m c) (hl : news.length = m * size) (hnews : ∀ j u, news[j]? = some u → w.cell? (ad.add j) = some u) (h1 : ∀ u ∈ news, u.oneCell' = true)
    (h63 : n + m ≤ maxLen) (hbytes : (n + m) * bytes ≤ 140737488355328) (hbase : base ≤ w.heap.size)
    (hK : ∀ v' w', w'.ownsRow base e size v' (n + m) (xs ++ news) → w.grownBy w' v.ownBlock → wpList P ops Q rest (a.put o.dst v') w') : wpList P ops Q (o :: rest) a w :=
  wpList_plain hg fun _ hK' => wp_append_at s x t ho base e i z size bytes ht hi hz hsize hby hzs hsz v n xs hs hown ad m c news hx hl hnews h1 h63 hbytes hbase fun v' w' h1 h2 _ => hK' _ _ (hK v' w' h1 h2)
theorem own_mono {w : World} {B B' : Nat} {e : TypeId} {s n : Nat} {v : Value} {xs : List Value} (h : w.ownsRow B e s v n xs) (hb : B' ≤ B) : w.ownsRow B' e s v n xs := by
  refine ⟨h.1, ?_⟩
  rcases h.2 with h0 | ⟨q, cap, cur, e, hq, r⟩
  · exact .inl h0
  · exact .inr ⟨q, cap, cur, e, Nat.le_trans hb hq, r⟩

/-- all is well behind i acts -/
def Good (w0 : World) (g m q i : Nat) (u : World) : Prop :=
  ∃ (n : Nat) (S : Int → Int → Bool) (ms : List Msg) (ps : List (Int × Int)), AW w0 g m q n S ms ms ps u ∧ Agree S ps ∧ ms.length ≤ i ∧ ps.length ≤ i ∧ n ≤ i
/-- what 'does' leaves -/
def DoesOut (w0 : World) (g m q i : Nat) (e : Ending) (u' : World) : Prop := e = .returned (.bool true) ∧ Good w0 g m q (i + 1) u'
end Go.Proofs.Ytjbcmepnlnfkjaa
