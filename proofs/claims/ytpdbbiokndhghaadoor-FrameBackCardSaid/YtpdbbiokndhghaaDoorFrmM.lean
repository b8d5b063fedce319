/-
  CONTRACT of the reference's All.
-/
import Derived.Test.YtpdbbiokndhghaaDoorFrmL
namespace Go.Proofs.YtpdbbiokndhghaaDoor
open Go Go.RowKit Go.Proofs

theorem cell_two_new (w : World) (x y : Value) (t : TypeId) (b : Nat) (hb : b = w.heap.size) : ∀ j u, [x, y][j]? = some u → (w.alloc (.cells #[x, y] t)).cell? ((⟨b, 0, none⟩ : Addr).add j) = some u := by
  subst hb
  intro j u hj
  match j, hj with
  | 0, hj => simp at hj; subst hj; simp [Addr.add]
  | 1, hj => simp at hj; subst hj; simp [Addr.add]
theorem pair_oneCell (k : UInt8) (A : Option Addr) (n c : Nat) : ∀ u ∈ [bv k, Value.slice A n c], u.oneCell' = true := by simp [bv, Value.oneCell']
theorem own_empty2 (w : World) (e : TypeId) (base b : Nat) (hb : b = w.heap.size) (hbase : base ≤ b) :
    (w.alloc (.cells #[] e)).ownsRow base e 2 (.slice (some ⟨b, 0, none⟩) 0 0) 0 [] := by
  subst hb
  exact ⟨by simp, .inr ⟨w.heap.size, 0, _, rfl, hbase, heap_alloc_new w _, Nat.le_refl _, by decide, by simp, by simp⟩⟩

def RAlls (B : Nat) (w : World) (its : List (UInt8 × List UInt8)) (v : Value) (w' : World) : Prop :=
  ∃ vs : List Value, w'.ownsRow B 44 2 v its.length (flat (its.map Prod.fst) vs) ∧ Sls w' (fun b => v.ownBlock ≠ some b) vs (its.map Prod.snd) ∧ Below B w w'
def RAllOut (w : World) (r : List (UInt8 × List UInt8) × Nat × Nat) (e : Ending) (w' : World) : Prop :=
  ∃ v, e = .returned (.tuple #[v, .int .i64 ((r.2.1 : Nat) : Int), .int .i64 ((r.2.2 : Nat) : Int)]) ∧ RAlls w.heap.size w r.1 v w'

theorem RAlls.below {B : Nat} {w w1 w2 : World} {its : List (UInt8 × List UInt8)} {v : Value} (h : RAlls B w its v w1) (hB : B ≤ w1.heap.size) (hb : Below w1.heap.size w1 w2) : RAlls B w its v w2 := by
  obtain ⟨vs, h1, h3, h4⟩ := h
  exact ⟨vs, own_below h1 hb, h3.below hb, h4.trans (hb.mono hB)⟩

theorem RAlls.more {B : Nat} {w w1 wa w2 : World} {its : List (UInt8 × List UInt8)} {v v' : Value} {vs : List Value} {kd : UInt8} {d : List UInt8} {A : Option Addr} {c : Nat} (hBw : B ≤ w1.heap.size)
    (h1 : w1.ownsRow B 44 2 v its.length (flat (its.map Prod.fst) vs)) (h3 : Sls w1 (fun b => v.ownBlock ≠ some b) vs (its.map Prod.snd)) (h4 : Below B w w1)
    (hc : d.length ≤ c) (hB : Bytes w1 A d) (hP : 0 < d.length → ∀ a, A = some a → v.ownBlock ≠ some a.block)
    (ha : wa = w1.alloc (.cells #[bv kd, .slice A d.length c] 44)) (g1 : w2.ownsRow B 44 2 v' (its.length + 1) (flat (its.map Prod.fst) vs ++ [bv kd, .slice A d.length c])) (k1 : wa.grownBy w2 v.ownBlock) (e1 : v'.ownBlock = v.ownBlock ∨ v'.ownBlock = some wa.heap.size) :
    RAlls B w (its ++ [(kd, d)]) v' w2 := by
  subst ha
  have s12 : w1.heap.size + 1 ≤ w2.heap.size := by have := k1.size; simpa using this
  have keep12 : ∀ b, v.ownBlock ≠ some b → b < w1.heap.size → w2.heap[b]? = w1.heap[b]? := fun b hne hlt => by
    rw [k1.block b (by simp; omega) (fun e => hne e.symm)]
    exact heap_alloc_old w1 _ hlt
  have off : ∀ b, v.ownBlock ≠ some b → b < w1.heap.size → v'.ownBlock ≠ some b := fun b ho hlt => by
    rcases e1 with e | e
    · rw [e]; exact ho
    · rw [e]; intro h; injection h with h; simp at h; omega
  have hB' := hB
  have hl : (its.map Prod.fst).length = vs.length := by rw [h3.length]; simp
  refine ⟨vs ++ [.slice A d.length c], ?_, ?_, ?_⟩
  · rw [List.map_append, List.map_cons, List.map_nil, flat_snoc _ _ _ _ hl]
    simpa using g1
  · rw [List.map_append]
    refine (h3.keep (by omega) keep12 off).snoc hc (hB.keepB (by omega) fun hl a ha hlt => keep12 _ (hP hl a ha) hlt) fun hl a ha => off _ (hP hl a ha) ?_
    obtain ⟨b, off, e, hb, _⟩ := hB' hl
    rw [e] at ha
    injection ha with ha
    subst ha
    exact hb
  · exact (h4.alloc hBw (.cells #[bv kd, .slice A d.length c] 44)).grown k1 (by simp; omega) (fun k hk => (h1.lt k hk).1)

set_option maxRecDepth 8000 in
set_option maxHeartbeats 800000 in
theorem refAll_any (A : Option Addr) (n c : Nat) (l : List UInt8) (w : World) (hn : l.length = n) (hl : n ≤ 1000000) (hnc : n ≤ c) (hB : Bytes w A l) :
    Calls Tryd.prog 26 #[.slice A n c] w (RAllOut w (Frm.allS l)) := by
  subst hn
  have HC := Lib.hid hB; clear hB
  obtain ⟨i1, hj, hy0, hy1, hy2⟩ := info_parts info44
  go_enter Tryd.func26, Tryd.ntmps26
  go_wp2_with fail
  go_loopw [5, 6] (fun v x wr => ∃ (p : Nat) (its : List (UInt8 × List UInt8)), x = .int .i64 p ∧ Frm.At l p its ∧ RAlls w.heap.size w its v wr) (fun _ x _ => l.length - (intOf x).toNat)
  case atStart => exact ⟨0, [], rfl, Frm.at_start l, [], own_empty2 w 44 _ _ rfl (Nat.le_refl _), trivial, (Below.refl _ _).alloc (Nat.le_refl _) _⟩
  case round =>
    obtain ⟨p, its, rfl, hat, halls⟩ := hrel
    obtain ⟨hpl, hil⟩ := Frm.at_le hat
    have HAT := Lib.hid hat; clear hat
    have HA := Lib.hid halls; clear halls
    by_cases hlt : p < l.length
    · have HWR : Hid (Below w.heap.size w wr) := by obtain ⟨_, _, _, h⟩ := HA.out; exact h
      have hD := (HC.out.below HWR.out).mapAdd p
      obtain ⟨A4, hA4⟩ : ∃ A4, Option.map (fun x => x.add p) A = A4 := ⟨_, rfl⟩
      rw [hA4] at hD
      have HD := Lib.hid hD; clear hD
      have HER := Lib.hid (fun h => Frm.at_err HAT.out hlt h)
      have HST := Lib.hid (fun h => Frm.at_step HAT.out hlt h)
      have HNO := Lib.hid (Frm.next_ok (l.drop p))
      have HDL : Hid ((l.drop p).length = l.length - p) := List.length_drop ..
      have HNX := Lib.hid (fun (w1 : World) (hb : Bytes w1 A4 (l.drop p)) => refNext_fresh A4 (l.length - p) (c - p) (l.drop p) w1 HDL.out (by omega) (by omega) hb)
      generalize l.drop p = l' at *
      obtain ⟨⟨kd, d, nn, er⟩, hr⟩ : ∃ r, Frm.nextS l' = r := ⟨_, rfl⟩
      rw [hr] at HER HST HNX HNO
      clear hr
      go_wp2_with fail
      refine (HNX.out _ HD.out).mono ?_
      rintro e w1 ⟨A5, m5, c5, rfl, hm5, hc5, hcm5, hB5, hF5, hb5⟩
      have hm5' : d.length = m5 := hm5
      subst hm5'
      clear hm5
      have HF5 := Lib.hid hF5; clear hF5
      have HA1 := Lib.hid ((HA.out.below HWR.out.size hb5).below (by have := HWR.out.size; have := hb5.size; omega) ((Below.refl w1.heap.size w1).alloc (Nat.le_refl _) (.cells #[bv kd, .slice A5 d.length c5] 44)))
      have HOFF : Hid (0 < d.length → ∀ a, A5 = some a → ∀ v, RAlls w.heap.size w its v wr → v.ownBlock ≠ some a.block) := by
        intro hl a ha v hv
        obtain ⟨vs, h1, _, _⟩ := hv
        have h3 := HF5.out hl a ha
        exact fun e => by have := (h1.lt _ e).2; omega
      have HB5 := Lib.hid (hB5.alloc (.cells #[bv kd, .slice A5 d.length c5] 44))
      have hs1 : Hid (w.heap.size ≤ w1.heap.size) := by
        show w.heap.size ≤ w1.heap.size
        have := HWR.out.size; have := hb5.size; omega
      clear hb5 hB5
      by_cases her : er = 0
      · subst her
        have HST' := Lib.hid (HST.out rfl)
        obtain ⟨hn0, hn1, hn2⟩ := HNO.out rfl
        have hn0' : 0 < nn := hn0
        have hn1' : nn ≤ l.length - p := by rw [← HDL.out]; exact hn1
        clear HST HER HNO hn0 hn1 hn2
        obtain ⟨vs, h1, h3, h4⟩ := HA1.out
        have H1 := Lib.hid h1; clear h1
        have H3 := Lib.hid h3; clear h3
        have H4 := Lib.hid h4; clear h4
        go_wp2_with (at_builtin; go_must (refine wpList_append_own_at _ rfl _ _ 51 rfl w.heap.size 44 i1 (.agg #[.int .u8 0, .slice none 0 0]) 2 32 Tryd.underlying51 hj hy0 hy1 hy2 rfl (by omega) _ its.length _ rfl (H1.out.alloc _) ⟨_, 0, none⟩ 1 1 [bv kd, .slice A5 d.length c5] rfl rfl (cell_two_new _ _ _ _ _ (by simp)) (pair_oneCell _ _ _ _) (by unfold maxLen; omega) (by omega) (by have := hs1.out; simp; omega) ?_))
        intro v' w2 g1 k1 _ e1
        have HM := Lib.hid (RAlls.more (by have := hs1.out; simp; omega) H1.out H3.out H4.out hc5 HB5.out (fun hl a ha => HOFF.out hl a ha _ HA.out) rfl (by simpa using g1) k1 (by simpa using e1))
        clear g1 k1 e1
        go_wp2_with fail
        go_roundw
        case rel => exact ⟨p + nn, its ++ [(kd, d)], by go_num, HST'.out, HM.out⟩
        case measure => simp [intOf]; omega
      · have hne : ((er : Int) == 0) = false := by rw [beq_eq_false_iff_ne]; omega
        have HF := Lib.hid (HER.out her)
        go_wp2_with fail
        go_ret3
        rw [HF.out]
        exact ⟨_, rfl, HA1.out⟩
    · have HF := Lib.hid (Frm.at_end HAT.out (by omega))
      go_wp2_with fail
      go_ret3
      rw [HF.out]
      exact ⟨_, rfl, HA.out⟩
end Go.Proofs.YtpdbbiokndhghaaDoor
