/-
  CONTRACT of the reference's Next.
-/
import Derived.Test.YtpdbbiokndhghaaDoorFrmG
namespace Go.Proofs.YtpdbbiokndhghaaDoor
open Go Go.RowKit Go.Proofs

/-- an item stands at b -/
def Itm (w : World) (b : Nat) (kd : Int) (A : Option Addr) (m c : Nat) : Prop := w.heap[b]? = some (.cells #[.int .u8 kd, .slice A m c] 44)
section
variable {w u : World} {b : Nat} {kd : Int} {A : Option Addr} {m c : Nat}
theorem Itm.lt (h : Itm w b kd A m c) : b < w.heap.size := (Array.getElem?_eq_some_iff.1 h).1
theorem Itm.c0 (h : Itm w b kd A m c) : w.cell? ⟨b, 0, none⟩ = some (.int .u8 kd) := by unfold World.cell?; simp [show w.heap[b]? = _ from h]
theorem Itm.c1 (h : Itm w b kd A m c) : w.cell? ⟨b, 1, none⟩ = some (.slice A m c) := by unfold World.cell?; simp [show w.heap[b]? = _ from h]
theorem Itm.fz (h : Itm w b kd A m c) (i : Nat) : w.frozen? ⟨b, i, none⟩ = false := by unfold World.frozen?; simp [show w.heap[b]? = _ from h]
theorem Itm.set0 (h : Itm w b kd A m c) (kd' : Int) : Itm (w.setCell ⟨b, 0, none⟩ (.int .u8 kd')) b kd' A m c := by
  have h' : w.heap[b]? = _ := h
  show (w.heap.modify _ _)[b]? = _
  rw [Array.getElem?_modify, if_pos rfl, h']
  rfl
theorem Itm.set1 (h : Itm w b kd A m c) (A' : Option Addr) (m' c' : Nat) : Itm (w.setCell ⟨b, 1, none⟩ (.slice A' m' c')) b kd A' m' c' := by
  have h' : w.heap[b]? = _ := h
  show (w.heap.modify _ _)[b]? = _
  rw [Array.getElem?_modify, if_pos rfl, h']
  rfl
theorem Itm.below (h : Itm w b kd A m c) (hu : Below w.heap.size w u) : Itm u b kd A m c := (hu.block b h.lt).trans h
theorem Itm.result {fn : Func} {p t x : Tmp} (h : Itm w b kd A m c) (hr : fn.results = #[.cell p 44, .tmp t, .tmp x]) (tmps : Array Value) (hp : tmps.getD p undef = .pointer (some ⟨b, 0, none⟩)) :
    (results fn tmps).run Tryd.prog w = .ok (.tuple #[.agg #[.int .u8 kd, .slice A m c], tmps.getD t undef, tmps.getD x undef]) w := by
  have c0 := h.c0
  have c1 := h.c1
  rw [Array.getD_eq_getD_getElem?] at hp
  simp only [results, hr]
  simp [Sem.run_bind, Result.andThen, hp]
  go_simp
end

theorem wp_append_bytes {P : Program} {o : Oper} {a : Act} {w : World} {K : Act → World → Prop} {Q : Exit → Act → World → Prop} (s x : Operand) (t : TypeId)
    (hop : o.op = Op.call { callee := Callee.builtin Builtin.append, args := #[s, x], argTypes := #[t, t] })
    (base : Nat) (e : TypeId) (i : TypeInfo) (z : Value) (ht : P.underlying t = some (.slice e)) (hi : P.info? e = some i) (hz : i.zero = some z)
    (hsize : i.size = 1) (hby : i.bytes = 1) (hzs : z.cells.size = 1) (v : Value) (n : Nat) (xs : List Value) (hs : a.eval s = v) (hown : w.ownsRow base e 1 v n xs)
    (A : Option Addr) (m c : Nat) (l : List UInt8) (hx : a.eval x = .slice A m c) (hm : l.length = m) (hr : Bytes w A l) (hbytes : n + m ≤ 140737488355328) (hbase : base ≤ w.heap.size)
    (hK : ∀ v' w', w'.ownsRow base e 1 v' (n + m) (xs ++ l.map bv) → w.grownBy w' v.ownBlock → K (a.put o.dst v') w') : o.wp P a w K Q := by
  obtain ⟨v', w', hrun, r1, r2⟩ := run_append_bytes (P := P) w base t o.type e i z ht hi hz hsize hby hzs v n xs hown A m c l hm hr hbytes hbase
  unfold Oper.wp
  simp [execOp, hop, resolve, invoke, builtin, hs, hx, hrun, Result.andThen]
  exact hK v' w' r1 r2

theorem Bytes.setFar {w : World} {A : Option Addr} {l : List UInt8} (h : Bytes w A l) (p : Addr) (v : Value) (hne : ∀ a, A = some a → p.block ≠ a.block) : Bytes (w.setCell p v) A l := fun hl => by
  obtain ⟨b, off, rfl, hb, hc⟩ := h hl
  exact ⟨b, off, rfl, by simpa [World.setCell] using hb, fun j hj => (show (w.setCell p v).cell? ⟨b, off + j, none⟩ = w.cell? ⟨b, off + j, none⟩ from World.cell?_of_block (w := w) (Below.heap_setCell w p v _ (Ne.symm (hne ⟨b, off, none⟩ rfl)))).trans (hc j hj)⟩

/-- what the reference's reading of a frame hands back -/
def RNexts (w : World) (r : UInt8 × List UInt8 × Nat × Nat) (e : Ending) (w' : World) : Prop :=
  ∃ A m c, e = .returned (.tuple #[.agg #[.int .u8 ((r.1.toNat : Nat) : Int), .slice A m c], .int .i64 ((r.2.2.1 : Nat) : Int), .int .i64 ((r.2.2.2 : Nat) : Int)]) ∧ r.2.1.length = m ∧ m ≤ c ∧ c ≤ maxLen ∧ Bytes w' A r.2.1 ∧ Below w.heap.size w w'

theorem rnexts_bad {w w' : World} {r : UInt8 × List UInt8 × Nat × Nat} {k : Nat} (hr : r = (0, [], 0, k)) (hb : Below w.heap.size w w') {ki : Int} (hk : ki = k) :
    RNexts w r (.returned (.tuple #[.agg #[.int .u8 0, .slice none 0 0], .int .i64 0, .int .i64 ki])) w' := by
  subst hr hk
  exact ⟨none, 0, 0, rfl, rfl, Nat.le_refl _, by decide, Bytes.none_ _ _, hb⟩

theorem res_bad (l : List UInt8) (n v : Nat) (h : v < 5 ∨ 1048576 < v) : Frm.resS l n v = (0, [], 0, 5) := by unfold Frm.resS; rw [if_pos h]
theorem res_gap (l : List UInt8) (n v : Nat) (h : ¬ (v < 5 ∨ 1048576 < v)) (h2 : l.length - n < v) : Frm.resS l n v = (0, [], 0, 12) := by unfold Frm.resS; rw [if_neg h, if_pos h2]
theorem res_body (l : List UInt8) (n v : Nat) (h : ¬ (v < 5 ∨ 1048576 < v)) (h2 : ¬ l.length - n < v) : Frm.resS l n v = Frm.bodyS ((l.drop n).take v) (n + v) := by unfold Frm.resS; rw [if_neg h, if_neg h2]

set_option maxRecDepth 8000 in
set_option maxHeartbeats 400000 in
theorem refNext_any (A : Option Addr) (n c : Nat) (l : List UInt8) (w : World) (hn : l.length = n) (hl : n ≤ 140737488355328) (hnc : n ≤ c) (hB : Bytes w A l) :
    Calls Tryd.prog 24 #[.slice A n c] w (RNexts w (Frm.nextS l)) := by
  subst hn
  have HC := Lib.hid hB; clear hB
  have tt := text_toList
  obtain ⟨i0, hi0, hz0, hz1, hz2⟩ := info_parts info5
  go_enter Tryd.func24, Tryd.ntmps24
  go_wp2_with fail
  go_loopw [5] (fun x wr => ∃ (i : Nat), x = .int .i64 i ∧ 1 ≤ i ∧ (∀ j, 1 ≤ j → j < i → j ≤ l.length → Frm.okS (l.take j) = false) ∧ Itm wr w.heap.size 0 none 0 0 ∧ Below w.heap.size w wr) (fun x _ => l.length + 1 - (intOf x).toNat)
  case atStart => exact ⟨1, rfl, by omega, fun j h1 h2 _ => absurd h1 (by omega), heap_alloc_new w _, (Below.refl _ _).alloc (Nat.le_refl _) _⟩
  case round =>
    obtain ⟨i, rfl, hi, hall, hcell, hbl⟩ := hrel
    have HALL := Lib.hid hall; clear hall
    have HCELL := Lib.hid hcell; clear hcell
    have HBL := Lib.hid hbl; clear hbl
    by_cases hend : i ≤ l.length ∧ i ≤ 10
    · obtain ⟨hil, hi10⟩ := hend
      go_wp2_with fail
      refine (value_any A i c (l.take i) _ (by simp; omega) (by omega) ((HC.out.below HBL.out).take i)).mono ?_
      rintro e w1 ⟨rfl, hb1⟩
      have HB1 := Lib.hid (HBL.out.trans (hb1.mono HBL.out.size))
      have HI1 := Lib.hid (HCELL.out.below hb1); clear hb1
      have HRES := Lib.hid (Frm.next_res l i hil)
      cases hok : Frm.okS (l.take i)
      · have HOKF := Lib.hid hok; clear hok HRES
        go_wp2_with fail
        go_roundw
        case rel =>
          refine ⟨i + 1, by go_num, by omega, fun j h1 h2 h3 => ?_, HI1.out, HB1.out⟩
          rcases Nat.lt_or_ge j i with h4 | h4
          · exact HALL.out j h1 h4 h3
          · have e : j = i := by omega
            rw [e]; exact HOKF.out
        case measure => simp [intOf]; omega
      · have HR := Lib.hid (HRES.out hok)
        clear HRES hok
        generalize Frm.readS (l.take i) = v at *
        have c0 := HI1.out.c0
        have c1 := HI1.out.c1
        have f0 := HI1.out.fz 0
        have f1 := HI1.out.fz 1
        have c01 := (HI1.out.set0 0).c1
        have f01 := (HI1.out.set0 0).fz 1
        have HI2 := Lib.hid ((HI1.out.set0 0).set1 none 0 0)
        have HB2 := Lib.hid ((HB1.out.setCell (p := ⟨w.heap.size, 0, none⟩) (Nat.le_refl _) (.int .u8 0)).setCell (p := ⟨w.heap.size, 1, none⟩) (Nat.le_refl _) (.slice none 0 0))
        by_cases hbad : v < 5 ∨ 1048576 < v
        · have HF : Hid (Frm.nextS l = (0, [], 0, 5)) := by show _ = _; rw [HR.out, res_bad _ _ _ hbad]
          go_wp2_with fail
          all_goals refine bodyPost_ret (HI2.out.result rfl _ rfl) rfl ?_
          all_goals exact rnexts_bad HF.out HB2.out rfl
        · have hv5 : 5 ≤ v := by omega
          have hv1 : v ≤ 1048576 := by omega
          by_cases hgap : l.length - i < v
          · have HF : Hid (Frm.nextS l = (0, [], 0, 12)) := by show _ = _; rw [HR.out, res_gap _ _ _ hbad hgap]
            clear hbad
            go_wp2_with fail
            refine bodyPost_ret (HI2.out.result rfl _ rfl) rfl ?_
            exact rnexts_bad HF.out HB2.out rfl
          · have HF : Hid (Frm.nextS l = Frm.bodyS ((l.drop i).take v) (i + v)) := by show _ = _; rw [HR.out, res_body _ _ _ hbad hgap]
            clear hbad
            have hiv : i + v ≤ l.length := by omega
            have eiv : i + v - i = v := by omega
            have hD := ((HC.out.below HB1.out).mapAdd i).take v
            obtain ⟨A4, hA4⟩ : ∃ A4, Option.map (fun x => x.add i) A = A4 := ⟨_, rfl⟩
            rw [hA4] at hD
            have HD := Lib.hid hD; clear hD
            have hDW := (HC.out.mapAdd i).take v
            rw [hA4] at hDW
            have HDW := Lib.hid hDW; clear hDW
            have hfl : ((l.drop i).take v).length = v := by simp; omega
            generalize (l.drop i).take v = f at *
            have HFL := Lib.hid hfl; clear hfl
            have hcv : v ≤ c - i := by omega
            have hD4 := HD.out.dropped 4 (c - i) (by have := HFL.out; omega)
            obtain ⟨A5, hA5⟩ : ∃ A5, (if c - i = 4 then A4 else Option.map (fun x => ({ block := x.block, off := x.off + 4 } : Addr)) A4) = A5 := ⟨_, rfl⟩
            rw [hA5] at hD4
            have HD4 := Lib.hid hD4; clear hD4
            have hD5 := HD.out.dropped 5 (c - i) (by have := HFL.out; omega)
            obtain ⟨A6, hA6⟩ : ∃ A6, (if c - i = 5 then A4 else Option.map (fun x => ({ block := x.block, off := x.off + 5 } : Addr)) A4) = A6 := ⟨_, rfl⟩
            rw [hA6] at hD5
            have HD5 := Lib.hid hD5; clear hD5
            have x := text_at (c := c - i) HFL.out HD.out
            clear c0 c1 f0 f1 c01 f01 HI2 HB2
            have hvi : (4 : Int) ≤ v := by omega
            go_wp2_with fail
            refine wp_region_flow [(0, true), (1, true), (4, true), (5, true), (2, false), (3, true), (6, true)] (fun u => Below w1.heap.size w1 u) (by kernel_rfl) (by kernel_rfl) (fun _ _ _ _ _ h => h) ((Below.refl _ _).drew) ?_
            iterate 4 (refine flow_take (v := ?_) rfl (by rfl) ?_ ?_; rotate_left 1; (· intro u hu; have := tt; have x1 := x u hu; clear hu; go_simp; try with_reducible rfl); simp only [Act.put, List.getElem_toArray, List.getElem_cons_succ, List.getElem_cons_zero, List.setIfInBounds_toArray, List.set_cons_zero, List.set_cons_succ])
            (refine flow_turn rfl (by rfl) (fun K hK => ?_); simp only [List.getElem_toArray, List.getElem_cons_succ, List.getElem_cons_zero]; have HKK := Lib.hid hK; clear hK; go_simp)
            refine (refSeal_any A5 _ _ (f.drop 4) _ (by rw [List.length_drop, HFL.out]) (by omega) (HD4.out.below (Below.refl _ _).drew)).mono ?_
            rintro e w3 ⟨A7, n7, c7, rfl, hl7, _, _, hB7, hb7⟩
            have HB7 := Lib.hid (hb7 : Below w1.drew.heap.size _ w3); clear hb7
            have HN7 := Lib.hid hl7; clear hl7
            have HC7 := Lib.hid hB7; clear hB7
            have x7 := text_at (c := c7) HN7.out HC7.out
            refine HKK.out _ _ ⟨fun u => Below w3.heap.size w3 u, Below.refl _ _, fun u hu => ?_, ?_⟩
            · exact Below.trans ((Below.refl _ _).drew) (Below.trans HB7.out (Below.mono hu HB7.out.size))
            clear HKK K
            have H13 : Hid (Below w1.heap.size w1 w3) := Below.trans ((Below.refl w1.heap.size _).drew) HB7.out
            have HB3 : Hid (Below w.heap.size w w3) := HB1.out.trans (H13.out.mono HB1.out.size)
            have HI3 : Hid (Itm w3 w.heap.size 0 none 0 0) := HI1.out.below H13.out
            have HBYT : Hid (Bytes w3 A4 f) := HD.out.below H13.out
            have HBYT5 : Hid (Bytes w3 A6 (f.drop 5)) := HD5.out.below H13.out
            by_cases hse : sealed (f.drop 4) = f
            · have hne : (sealed (f.drop 4) == f) = true := by rw [beq_iff_eq]; exact hse
              have HF2 : Hid (Frm.nextS l = (f.getD 4 0, f.drop 5, i + v, 0)) := by show _ = _; rw [HF.out]; unfold Frm.bodyS; rw [if_pos hse]
              clear hse
              iterate 2 (refine flow_take (v := ?_) rfl (by rfl) ?_ ?_; rotate_left 1; (· intro u hu; have := tt; have := hne; have x1 := x7 u hu; clear hu; go_simp; try with_reducible rfl); simp only [Act.put, List.getElem_toArray, List.getElem_cons_succ, List.getElem_cons_zero, List.setIfInBounds_toArray, List.set_cons_zero, List.set_cons_succ])
              refine flow_nil ?_
              clear x x7 hne
              have hv4 : 4 < v := by omega
              have hvi4 : (4 : Int) < v := by omega
              have hvi5 : (5 : Int) ≤ v := by omega
              obtain ⟨b4, off4, rfl, hb4, hcell⟩ := HDW.out.at_ (k := 4) (by have := HFL.out; omega)
              have HG : Hid (f.getD 4 0 = f[4]'(by have := HFL.out; omega)) := by
                show _ = _
                rw [List.getD_eq_getElem?_getD, List.getElem?_eq_getElem (by have := HFL.out; omega)]; rfl
              rw [← HG.out] at hcell
              clear HG
              unfold bv at hcell
              obtain ⟨kd, hkd⟩ : ∃ kd, f.getD 4 0 = kd := ⟨_, rfl⟩
              rw [hkd] at hcell HF2
              clear hkd
              simp only [Option.map_some] at hA5 hA6
              go_wp2_with fail
              refine wp_region_flow [(0, true), (1, true), (2, true), (4, true), (5, true), (8, true), (9, true), (10, true), (11, true), (3, false), (6, false), (7, true), (12, false), (13, true), (14, true)] (fun u => Below w.heap.size w u) (by kernel_rfl) (by kernel_rfl) (fun _ _ _ _ _ h => h) (HB3.out.drew) ?_
              iterate 9 (refine flow_take (v := ?_) rfl (by rfl) ?_ ?_; rotate_left 1; (· intro u hu; have hcell' := (hu.cell hb4).trans hcell; clear hu; go_simp; try with_reducible rfl); simp only [Act.put, List.getElem_toArray, List.getElem_cons_succ, List.getElem_cons_zero, List.setIfInBounds_toArray, List.set_cons_zero, List.set_cons_succ])
              (refine flow_turn rfl (by rfl) (fun K hK => ?_); simp only [List.getElem_toArray, List.getElem_cons_succ, List.getElem_cons_zero]; have HKK := Lib.hid hK; clear hK; go_simp)
              have HO4 : Hid (World.ownsRow (w3.alloc (Obj.cells #[] 5)).drew w3.heap.size 5 1 (.slice (some ⟨w3.heap.size, 0, none⟩) 0 0) 0 (([] : List UInt8).map bv)) := own_empty w3 5 w3.heap.size _ rfl (Nat.le_refl _)
              have H34 : Hid (Below w3.heap.size w3 (w3.alloc (Obj.cells #[] 5)).drew) := ((Below.refl _ _).alloc (Nat.le_refl _) _).drew
              refine HKK.out _ _ ⟨fun u => Below w.heap.size w u, HB3.out.trans (H34.out.mono HB3.out.size), fun u hu => hu, ?_⟩
              clear HKK K
              generalize (w3.alloc (Obj.cells #[] 5)).drew = w4 at *
              refine flow_turn rfl (by rfl) (fun K hK => ?_)
              simp only [List.getElem_toArray, List.getElem_cons_succ, List.getElem_cons_zero]
              have HKK := Lib.hid hK; clear hK
              refine wp_append_bytes _ _ 22 rfl w3.heap.size 5 i0 (.int .u8 0) Tryd.underlying22 hi0 hz0 hz1 hz2 rfl _ 0 [] rfl HO4.out _ _ _ (f.drop 5) rfl (by rw [List.length_drop, HFL.out]) (HBYT5.out.below H34.out) (by omega) H34.out.size ?_
              intro v5 w5 hown5 hg5
              have H35 : Hid (Below w3.heap.size w3 w5) := H34.out.grown hg5 H34.out.size (fun k hk => (HO4.out.lt k hk).1)
              obtain ⟨A8, c8, rfl, hl8, hc8, hm8, hB8⟩ := bytes_of_own (l := f.drop 5) hown5
              have HNE : Hid (∀ a, A8 = some a → w3.heap.size ≤ a.block) := fun a ha => (hown5.lt a.block (by rw [ha]; rfl)).1
              have hw3 : Hid (w.heap.size < w3.heap.size) := HI3.out.lt
              have HB9 : Hid (Bytes ((w5.setCell ⟨w.heap.size, 0, none⟩ (.int .u8 ((kd.toNat : Nat) : Int))).setCell ⟨w.heap.size, 1, none⟩ (.slice A8 (v - 5) c8)) A8 (f.drop 5)) :=
                (hB8.setFar _ _ (fun a ha => by have := HNE.out a ha; have := hw3.out; simp only; omega)).setFar _ _ (fun a ha => by have := HNE.out a ha; have := hw3.out; simp only; omega)
              clear hB8
              have HL8 := Lib.hid hl8; clear hl8 hown5 hg5 HO4
              have HB5 : Hid (Below w.heap.size w w5) := HB3.out.trans (H35.out.mono HB3.out.size)
              have HI5 : Hid (Itm w5 w.heap.size 0 none 0 0) := HI3.out.below H35.out
              have c0 := HI5.out.c0
              have f0 := HI5.out.fz 0
              have c1 := HI5.out.c1
              have f1 := HI5.out.fz 1
              have HI6 := Lib.hid ((HI5.out.set0 ((kd.toNat : Nat) : Int)).set1 A8 (v - 5) c8)
              have HB6 := Lib.hid ((HB5.out.setCell (p := ⟨w.heap.size, 0, none⟩) (Nat.le_refl _) (.int .u8 ((kd.toNat : Nat) : Int))).setCell (p := ⟨w.heap.size, 1, none⟩) (Nat.le_refl _) (.slice A8 (v - 5) c8))
              refine HKK.out _ _ ⟨fun u => Below w.heap.size w u, HB5.out, fun u hu => hu, ?_⟩
              clear HKK K
              simp only [Act.put, List.setIfInBounds_toArray, List.set_cons_zero, List.set_cons_succ]
              iterate 1 (refine flow_take (v := ?_) rfl (by rfl) ?_ ?_; rotate_left 1; (· intro u hu; skip; clear hu; go_simp; try with_reducible rfl); simp only [Act.put, List.getElem_toArray, List.getElem_cons_succ, List.getElem_cons_zero, List.setIfInBounds_toArray, List.set_cons_zero, List.set_cons_succ])
              (refine flow_turn rfl (by rfl) (fun K hK => ?_); simp only [List.getElem_toArray, List.getElem_cons_succ, List.getElem_cons_zero]; have HKK := Lib.hid hK; clear hK; go_simp)
              refine HKK.out _ _ ⟨fun u => Below w.heap.size w u, HB6.out, fun u hu => hu, ?_⟩
              clear HKK K
              iterate 2 (refine flow_take (v := ?_) rfl (by rfl) ?_ ?_; rotate_left 1; (· intro u hu; skip; clear hu; go_simp; try with_reducible rfl); simp only [Act.put, List.getElem_toArray, List.getElem_cons_succ, List.getElem_cons_zero, List.setIfInBounds_toArray, List.set_cons_zero, List.set_cons_succ])
              refine flow_nil ?_
              go_wp2_with fail
              refine bodyPost_ret (HI6.out.result rfl _ rfl) rfl ?_
              rw [HF2.out]
              exact ⟨A8, v - 5, c8, by simp; rw [IntWalk.i64_in (v : Int) (by omega), IntWalk.i64_in _ (by omega)], by rw [List.length_drop, HFL.out], by omega, hm8, HB9.out, HB6.out⟩
            · have hne : (sealed (f.drop 4) == f) = false := by rw [beq_eq_false_iff_ne]; exact hse
              have HF2 : Hid (Frm.nextS l = (0, [], 0, 5)) := by show _ = _; rw [HF.out]; unfold Frm.bodyS; rw [if_neg hse]
              clear hse
              iterate 2 (refine flow_take (v := ?_) rfl (by rfl) ?_ ?_; rotate_left 1; (· intro u hu; have := tt; have := hne; have x1 := x7 u hu; clear hu; go_simp; try with_reducible rfl); simp only [Act.put, List.getElem_toArray, List.getElem_cons_succ, List.getElem_cons_zero, List.setIfInBounds_toArray, List.set_cons_zero, List.set_cons_succ])
              refine flow_nil ?_
              clear x x7 hne
              have c0 := HI3.out.c0
              have c1 := HI3.out.c1
              have f0 := HI3.out.fz 0
              have f1 := HI3.out.fz 1
              have c01 := (HI3.out.set0 0).c1
              have f01 := (HI3.out.set0 0).fz 1
              have HI2 := Lib.hid ((HI3.out.set0 0).set1 none 0 0)
              have HB2 := Lib.hid ((HB3.out.setCell (p := ⟨w.heap.size, 0, none⟩) (Nat.le_refl _) (.int .u8 0)).setCell (p := ⟨w.heap.size, 1, none⟩) (Nat.le_refl _) (.slice none 0 0))
              go_wp2_with fail
              refine bodyPost_ret (HI2.out.result rfl _ rfl) rfl ?_
              exact rnexts_bad HF2.out HB2.out rfl
    · have hnx := Frm.next_end l (fun j h1 h2 h3 => HALL.out j h1 (by omega) h2)
      have c0 := HCELL.out.c0
      have c1 := HCELL.out.c1
      have f0 := HCELL.out.fz 0
      have f1 := HCELL.out.fz 1
      have HI2 := Lib.hid ((HCELL.out.set0 0).set1 none 0 0)
      have HB2 := Lib.hid ((HBL.out.setCell (p := ⟨w.heap.size, 0, none⟩) (Nat.le_refl _) (.int .u8 0)).setCell (p := ⟨w.heap.size, 1, none⟩) (Nat.le_refl _) (.slice none 0 0))
      have HNX := Lib.hid hnx; clear hnx
      have HOP := Lib.hid (open2_any A l.length c l wr rfl (by omega) (HC.out.below HBL.out))
      by_cases hil : i ≤ l.length
      · have hi10 : 10 < i := by omega
        clear hend
        go_wp2_with fail
        refine HOP.out.mono ?_
        rintro e w1 ⟨rfl, rfl⟩
        cases hop : Frm.openS l
        · have HF : Hid (Frm.nextS l = (0, [], 0, 5)) := by show _ = _; rw [HNX.out, hop]; rfl
          clear hop
          go_wp2_with fail
          refine bodyPost_ret (HI2.out.result rfl _ rfl) rfl ?_
          exact rnexts_bad HF.out HB2.out rfl
        · have HF : Hid (Frm.nextS l = (0, [], 0, 12)) := by show _ = _; rw [HNX.out, hop]; rfl
          clear hop
          go_wp2_with fail
          refine bodyPost_ret (HI2.out.result rfl _ rfl) rfl ?_
          exact rnexts_bad HF.out HB2.out rfl
      · clear hend
        go_wp2_with fail
        refine HOP.out.mono ?_
        rintro e w1 ⟨rfl, rfl⟩
        cases hop : Frm.openS l
        · have HF : Hid (Frm.nextS l = (0, [], 0, 5)) := by show _ = _; rw [HNX.out, hop]; rfl
          clear hop
          go_wp2_with fail
          refine bodyPost_ret (HI2.out.result rfl _ rfl) rfl ?_
          exact rnexts_bad HF.out HB2.out rfl
        · have HF : Hid (Frm.nextS l = (0, [], 0, 12)) := by show _ = _; rw [HNX.out, hop]; rfl
          clear hop
          go_wp2_with fail
          refine bodyPost_ret (HI2.out.result rfl _ rfl) rfl ?_
          exact rnexts_bad HF.out HB2.out rfl
end Go.Proofs.YtpdbbiokndhghaaDoor
