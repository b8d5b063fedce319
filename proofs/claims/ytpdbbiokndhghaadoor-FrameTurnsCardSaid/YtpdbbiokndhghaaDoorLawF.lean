/-
  THE LAW FrameTurns WALKED: at any byte, any bytes and any three numbers, in every world in which the table holds its numbers, the call returns true (the theorem of few bits: CrcC).
-/
import Derived.Test.YtpdbbiokndhghaaDoorLawE
import Derived.Test.YtpdbbiokndhghaaDoorLawD
import Derived.Test.YtpdbbiokndhghaaDoorCrcC
namespace Go.Proofs.YtpdbbiokndhghaaDoor
open Go Go.RowKit Go.Proofs

theorem next_body (N : Nat) (T : List UInt8) (hT : T.length = N) (h5 : 5 ≤ N) (hN : N ≤ 1048576) : Frm.nextS (Frm.uv N ++ T) = Frm.bodyS T ((Frm.uv N).length + N) := by
  have h3 : N < 128 ^ 3 := by omega
  have htake : (Frm.uv N ++ T).take (Frm.uv N).length = Frm.uv N := by simp
  rw [Frm.next_res _ (Frm.uv N).length (by simp) (by rw [htake]; exact ok_uv _ h3), htake, read_uv _ h3]
  unfold Frm.resS
  rw [if_neg (by omega), if_neg (by rw [List.length_append]; omega), List.drop_left, ← hT, List.take_length]

theorem turn_er (kd : UInt8) (b : List UInt8) (f : Nat → Nat) (hb : b.length ≤ 200) :
    (turn3 (sealed (kd :: b)) f 3 = sealed (kd :: b) → (Frm.nextS (Frm.uv (b.length + 5) ++ turn3 (sealed (kd :: b)) f 3)).2.2.2 = 0) ∧
    (turn3 (sealed (kd :: b)) f 3 ≠ sealed (kd :: b) → (Frm.nextS (Frm.uv (b.length + 5) ++ turn3 (sealed (kd :: b)) f 3)).2.2.2 = 5) := by
  have hs : (sealed (kd :: b)).length = b.length + 5 := by rw [sealed_len]; simp
  have hfew : sealed ((turn3 (sealed (kd :: b)) f 3).drop 4) = turn3 (sealed (kd :: b)) f 3 ↔ turn3 (sealed (kd :: b)) f 3 = sealed (kd :: b) :=
    Crc.few_sealed (sealed (kd :: b)) (f 0) (f 1) (f 2) (by omega) (by omega) (by rw [sealed_drop4])
  have hl := turn3_length (sealed (kd :: b)) f 3
  rw [next_body _ _ (by omega) (by omega) (by omega)]
  unfold Frm.bodyS
  constructor
  · intro e; rw [if_pos (hfew.2 e)]
  · intro e; rw [if_neg (fun h => e (hfew.1 h))]

theorem head_small (n : Nat) (h : n ≤ 122) : (Frm.uv (n + 5)).length = 1 := by rw [Frm.uv_small _ (by omega)]; rfl
theorem head_big (n : Nat) (h : 122 < n) (h2 : n ≤ 200) : (Frm.uv (n + 5)).length = 2 := by rw [Frm.uv_big _ (by omega), Frm.uv_small _ (by omega)]; rfl

set_option maxHeartbeats 400000 in
theorem law_frameTurns_out (ki : Int) (A : Option Addr) (n c : Nat) (x y z : Int) (w : World) (hn : 200 < n) (hk : Known w) :
    Calls Tryd.prog 9 #[.int .u8 ki, .slice A n c, .agg #[.int .u16 x, .int .u16 y, .int .u16 z]] w (Yes w) := by
  have HK := Lib.hid hk; clear hk
  go_enter Tryd.func9, Tryd.ntmps9
  go_wp2_with fail
  refine (awake04_any _ (HK.out.below ((Below.refl _ _).alloc (Nat.le_refl _) _))).mono ?_
  rintro e w2 ⟨rfl, hb⟩
  have HB := Lib.hid hb; clear hb
  go_wp2_with fail
  go_ret
  exact ⟨rfl, ((Below.refl _ _).alloc (Nat.le_refl _) _).trans (HB.out.mono (by simp))⟩

set_option maxRecDepth 8000 in
set_option maxHeartbeats 1600000 in
theorem law_frameTurns_small (ki : Int) (kd : UInt8) (A : Option Addr) (n c : Nat) (x y z : Nat) (l : List UInt8) (w : World) (hki : ki = ((kd.toNat : Nat) : Int)) (hn : l.length = n) (h1 : n ≤ 122) (_h2 : n ≤ 200) (hx : x < 65536) (hy : y < 65536) (hz : z < 65536) (hB : Bytes w A l) (hk : Known w) :
    Calls Tryd.prog 9 #[.int .u8 ki, .slice A n c, .agg #[.int .u16 (x : Int), .int .u16 (y : Int), .int .u16 (z : Int)]] w (Yes w) := by
  subst hki
  have HN := Lib.hid hn; clear hn
  have HK := Lib.hid hk; clear hk
  have HC := Lib.hid hB; clear hB
  have HER := Lib.hid (fun f => turn_er kd l f (by have := HN.out; omega))
  have HH : Hid ((Frm.uv (l.length + 5)).length = 1) := head_small l.length (by have := HN.out; omega) 
  have HFR : Hid (frame kd l = Frm.uv (l.length + 5) ++ sealed (kd :: l)) := rfl
  have HSL : Hid ((sealed (kd :: l)).length = n + 5) := by show _ = _; rw [sealed_len, List.length_cons, HN.out]
  have HFL : Hid ((frame kd l).length = n + 5 + 1) := by show _ = _; rw [HFR.out, List.length_append, HH.out, HSL.out]; omega
  obtain ⟨i0, hi, hz0, hz1, hz2⟩ := info_parts info5
  go_enter Tryd.func9, Tryd.ntmps9
  go_wp2_with fail
  have HWA : Hid (Below w.heap.size w (w.alloc (.cells #[.int .u16 (x : Int), .int .u16 (y : Int), .int .u16 (z : Int)] 24))) := (Below.refl _ _).alloc (Nat.le_refl _) _
  have HSA : Hid ((w.alloc (.cells #[.int .u16 (x : Int), .int .u16 (y : Int), .int .u16 (z : Int)] 24)).heap.size = w.heap.size + 1) := by show _ = _; simp
  have b0 : (w.alloc (.cells #[.int .u16 (x : Int), .int .u16 (y : Int), .int .u16 (z : Int)] 24)).cell? ⟨w.heap.size, 0, none⟩ = some (.int .u16 (x : Int)) := by simp
  have b1 : (w.alloc (.cells #[.int .u16 (x : Int), .int .u16 (y : Int), .int .u16 (z : Int)] 24)).cell? ⟨w.heap.size, 1, none⟩ = some (.int .u16 (y : Int)) := by simp
  have b2 : (w.alloc (.cells #[.int .u16 (x : Int), .int .u16 (y : Int), .int .u16 (z : Int)] 24)).cell? ⟨w.heap.size, 2, none⟩ = some (.int .u16 (z : Int)) := by simp
  generalize w.alloc (.cells #[.int .u16 (x : Int), .int .u16 (y : Int), .int .u16 (z : Int)] 24) = wa at *
  obtain ⟨v, hv⟩ : ∃ v : Nat → Nat, v = fun j => if j = 0 then x else if j = 1 then y else z := ⟨_, rfl⟩
  have hvl : ∀ j, v j < 65536 := fun j => by rw [hv]; dsimp only; split <;> (try split) <;> assumption
  have HV : Hid (∀ j, j < 3 → wa.cell? ⟨w.heap.size, j, none⟩ = some (.int .u16 ((v j : Nat) : Int))) := by
    intro j hj
    rw [hv]
    match j, hj with
    | 0, _ => exact b0
    | 1, _ => exact b1
    | 2, _ => exact b2
  have HVL := Lib.hid hvl
  clear hv hvl b0 b1 b2
  refine (put_any _ kd A n c l _ rfl HN.out (by omega) (HC.out.below HWA.out) (HK.out.below HWA.out)).mono ?_
  rintro e w2 ⟨A1, n1, c1, rfl, hl1, hc1, hm1, hB1, hb1⟩
  have hn1 : n1 = n + 5 + 1 := by rw [← hl1, HFL.out]
  have HL1 := Lib.hid hl1; clear hl1
  have HB1 := Lib.hid hB1; clear hB1
  have HW2 := Lib.hid (HWA.out.trans (hb1.mono HWA.out.size))
  have HV2 : Hid (∀ j, j < 3 → w2.cell? ⟨w.heap.size, j, none⟩ = some (.int .u16 ((v j : Nat) : Int))) := fun j hj => (hb1.cell (p := ⟨w.heap.size, j, none⟩) (by show w.heap.size < wa.heap.size; have := HSA.out; omega)).trans (HV.out j hj)
  have HWS : Hid (w.heap.size < w2.heap.size) := by show _ < _; have := hb1.size; have := HSA.out; omega
  clear hb1 HV
  have HN1 := Lib.hid hn1
  have hn1l : 1 < n1 := by omega
  have hn1u : n1 ≤ 300 := by omega
  clear hn1
  go_wp2_with (at_builtin; go_must (refine wpList_append_bytes _ rfl _ _ 22 rfl w2.heap.size 5 i0 (.int .u8 0) Tryd.underlying22 hi hz0 hz1 hz2 rfl _ 0 [] rfl (own_empty _ 5 w2.heap.size w2.heap.size rfl (Nat.le_refl _)) _ _ _ (frame kd l) rfl HL1.out (HB1.out.alloc _) (by omega) (by simp) ?_))
  intro v1 w3 hown hg
  obtain ⟨g, cap, rfl, hgb, hgs, hcap, hcm⟩ := own_form hown (by omega)
  have HO := Lib.hid (show w3.ownsRow w2.heap.size 5 1 (.slice (some ⟨g, 0, none⟩) n1 cap) n1 ((Frm.uv (l.length + 5) ++ sealed (kd :: l)).map bv) by simpa [HFR.out] using hown)
  have HG := Lib.hid (((Below.refl w2.heap.size w2).alloc (Nat.le_refl _) _).grown hg (by simp) (by simp [Value.ownBlock]))
  clear hown hg
  go_wp2_with fail
  generalize Frm.uv (l.length + 5) = U at *
  generalize sealed (kd :: l) = S at *
  go_loopw [11] (fun i wr => ∃ k : Nat, k ≤ 3 ∧ i = .int .i64 k ∧ wr.ownsRow w2.heap.size 5 1 (.slice (some ⟨g, 0, none⟩) n1 cap) n1 ((U ++ turn3 S (fun j => v j % (8 * (n + 5) + 1)) k).map bv) ∧ Below w2.heap.size w2 wr) (fun i _ => 3 - (intOf i).toNat)
  case atStart => exact ⟨0, by omega, rfl, HO.out, HG.out⟩
  case round =>
    obtain ⟨k, hk, rfl, hown, hb⟩ := hrel
    have HO' := Lib.hid hown; clear hown
    have HG' := Lib.hid hb; clear hb
    clear HO HG
    by_cases hk3 : k < 3
    · have hcell := (HG'.out.cell (p := ⟨w.heap.size, k, none⟩) HWS.out).trans (HV2.out k hk3)
      have hq := HVL.out k
      have HT : Hid (turn3 S (fun j => v j % (8 * (n + 5) + 1)) (k + 1) = Crc.flip (turn3 S (fun j => v j % (8 * (n + 5) + 1)) k) (v k % (8 * (n + 5) + 1))) := rfl
      have HTL := Lib.hid (turn3_length S (fun j => v j % (8 * (n + 5) + 1)) k)
      generalize turn3 S (fun j => v j % (8 * (n + 5) + 1)) k = t at *
      generalize v k = q at *
      obtain ⟨m, hm⟩ : ∃ m : Nat, m = q % (8 * (n + 5) + 1) := ⟨_, rfl⟩
      have em : (q : Int) % (8 * ((n1 : Int) - 1) + 1) = (m : Int) := by
        have e1 : (8 * ((n1 : Int) - 1) + 1) = ((8 * (n + 5) + 1 : Nat) : Int) := by have := HN1.out; omega
        rw [hm, e1]; simp
      have hm1 : m ≤ 8 * (n + 5) := by rw [hm]; have := Nat.mod_lt q (show 0 < 8 * (n + 5) + 1 by omega); omega
      rw [← hm] at HT
      clear hm
      have hm1' : (m : Int) ≤ 8 * ((n1 : Int) - 1) := by have := HN1.out; omega
      by_cases hlt : m < 8 * (n + 5)
      · have hlt' : (m : Int) < 8 * ((n1 : Int) - 1) := by have := HN1.out; omega
        have htl : m / 8 < t.length := by rw [HTL.out, HSL.out]; omega
        have c1' : wr.cell? ⟨g, 1 + m / 8, none⟩ = some (bv t[m / 8]) := by
          rw [HO'.out.cellAt (1 + m / 8) (by have := HN1.out; omega), List.map_append, List.getElem?_append_right (by simp [HH.out])]
          simp [HH.out, List.getElem?_eq_getElem htl]
        unfold bv at c1'
        have f1 : wr.frozen? ⟨g, 1 + m / 8, none⟩ = false := HO'.out.frozenAt (1 + m / 8)
        have hcc := Crc.toNat_lt t[m / 8]
        have HST := HO'.out.stored (1 + m / 8) (bv (t[m / 8] ^^^ Crc.mask (m % 8)))
        generalize hcd : t[m / 8] = cc at *
        have HCD := Lib.hid hcd; clear hcd
        have HX := Lib.hid (xor_mask cc (m % 8) (Nat.mod_lt _ (by decide)))
        have HST1 := Lib.hid HST.1
        have HST2 := Lib.hid HST.2
        clear HST
        have hidx : 1 + m / 8 < n1 := by have := HN1.out; omega
        have hidx' : (1 : Int) + (m : Int) / 8 < (n1 : Int) := by omega
        have hidx0 : (0 : Int) ≤ 1 + (m : Int) / 8 := by omega
        go_wp2_with fail
        go_roundw
        case rel =>
          rw [HX.out]
          refine ⟨k + 1, by omega, by go_num, ?_, HG'.out.grown HST2.out HG'.out.size (by intro j hj; injection hj with hj; omega)⟩
          have e : U ++ t.set (m / 8) (cc ^^^ Crc.mask (m % 8)) = (U ++ t).set (1 + m / 8) (cc ^^^ Crc.mask (m % 8)) := by
            rw [List.set_append_right _ _ (by rw [HH.out]; omega), HH.out, Nat.add_sub_cancel_left]
          rw [HT.out]
          unfold Crc.flip
          rw [dif_pos htl, HCD.out, e, List.map_set]
          exact HST1.out
        case measure => simp [intOf]; omega
      · have hge : 8 * (n + 5) ≤ m := by omega
        have hge' : 8 * ((n1 : Int) - 1) ≤ (m : Int) := by have := HN1.out; omega
        go_wp2_with fail
        go_roundw
        case rel => exact ⟨k + 1, by omega, by go_num, by rw [HT.out, Crc.flip_none t m (by rw [HTL.out, HSL.out]; exact hge)]; exact HO'.out, HG'.out⟩
        case measure => simp [intOf]; omega
    · obtain rfl : k = 3 := by omega
      have her := HER.out (fun j => v j % (8 * (n + 5) + 1))
      have HTL := Lib.hid (turn3_length S (fun j => v j % (8 * (n + 5) + 1)) 3)
      generalize turn3 S (fun j => v j % (8 * (n + 5) + 1)) 3 = T at *
      obtain ⟨β, e2, e3⟩ : ∃ β : Bool, (frame kd l == U ++ T) = β ∧ (β = true ↔ T = S) := by
        refine ⟨_, rfl, ?_⟩
        rw [beq_iff_eq, HFR.out, List.append_right_inj]
        exact eq_comm
      have HE : Hid ((Frm.nextS (U ++ T)).2.2.2 = if β then 0 else 5) := by
        show _ = _
        cases hβ : β
        · rw [if_neg (by simp)]
          exact her.2 (fun h => by have := e3.2 h; rw [hβ] at this; cases this)
        · rw [if_pos rfl]
          exact her.1 (e3.1 hβ)
      have HDL : Hid ((U ++ T).length = n1) := by show _ = _; rw [List.length_append, HH.out, HTL.out, HSL.out]; have := HN1.out; omega
      clear her e3
      generalize U ++ T = D at *
      obtain ⟨A', c', hv', hn', _, _, hB'⟩ := bytes_of_own HO'.out
      injection hv' with q1 q2 q3
      subst q1 q3
      clear q2 hn'
      have HB' := Lib.hid hB'; clear hB'
      have tt := text_toList
      have HW3 := Lib.hid (HW2.out.trans (HG'.out.mono (Nat.le_of_lt (by have := HW2.out.size; have := HWS.out; omega))))
      clear HVL HV2
      go_wp2_with fail
      refine (next_any (some ⟨g, 0, none⟩) n1 cap D _ HDL.out (by omega) hcap HB'.out (HK.out.below HW3.out)).mono ?_
      obtain ⟨⟨kd', dt, nn, er⟩, hr⟩ : ∃ r, Frm.nextS D = r := ⟨_, rfl⟩
      rw [hr] at HE ⊢
      clear hr
      rintro e w4 ⟨A4, n4, c4, rfl, hl4, hc4, hm4, hB4, hb4⟩
      clear hB4 hl4
      have HER2 : er = if β then 0 else 5 := HE.out
      have HW4 := Lib.hid (HW3.out.trans (hb4.mono HW3.out.size))
      have x1 := text_at (c := c1) HL1.out ((HB1.out.below HG'.out).below hb4) _ (Below.refl _ _)
      have x2 := text_at (c := cap) HDL.out (HB'.out.below hb4) _ (Below.refl _ _)
      clear hb4
      cases β
      · have her5 : er = 5 := HER2
        subst her5
        clear HER2 HE
        go_wp2_with fail
        refine (awake04_any _ (HK.out.below HW4.out)).mono ?_
        rintro e w5 ⟨rfl, hb5⟩
        have HW5 := Lib.hid (HW4.out.trans (hb5.mono HW4.out.size)); clear hb5
        go_wp2_with fail
        go_ret
        exact ⟨rfl, HW5.out⟩
      · have her0 : er = 0 := HER2
        subst her0
        clear HER2 HE
        go_wp2_with fail
        refine (awake04_any _ (HK.out.below HW4.out)).mono ?_
        rintro e w5 ⟨rfl, hb5⟩
        have HW5 := Lib.hid (HW4.out.trans (hb5.mono HW4.out.size)); clear hb5
        go_wp2_with fail
        go_ret
        exact ⟨rfl, HW5.out⟩

set_option maxRecDepth 8000 in
set_option maxHeartbeats 1600000 in
theorem law_frameTurns_big (ki : Int) (kd : UInt8) (A : Option Addr) (n c : Nat) (x y z : Nat) (l : List UInt8) (w : World) (hki : ki = ((kd.toNat : Nat) : Int)) (hn : l.length = n) (h1 : 122 < n) (h2 : n ≤ 200) (hx : x < 65536) (hy : y < 65536) (hz : z < 65536) (hB : Bytes w A l) (hk : Known w) :
    Calls Tryd.prog 9 #[.int .u8 ki, .slice A n c, .agg #[.int .u16 (x : Int), .int .u16 (y : Int), .int .u16 (z : Int)]] w (Yes w) := by
  subst hki
  have HN := Lib.hid hn; clear hn
  have HK := Lib.hid hk; clear hk
  have HC := Lib.hid hB; clear hB
  have HER := Lib.hid (fun f => turn_er kd l f (by have := HN.out; omega))
  have HH : Hid ((Frm.uv (l.length + 5)).length = 2) := head_big l.length (by have := HN.out; omega) (by have := HN.out; omega)
  have HFR : Hid (frame kd l = Frm.uv (l.length + 5) ++ sealed (kd :: l)) := rfl
  have HSL : Hid ((sealed (kd :: l)).length = n + 5) := by show _ = _; rw [sealed_len, List.length_cons, HN.out]
  have HFL : Hid ((frame kd l).length = n + 5 + 2) := by show _ = _; rw [HFR.out, List.length_append, HH.out, HSL.out]; omega
  obtain ⟨i0, hi, hz0, hz1, hz2⟩ := info_parts info5
  go_enter Tryd.func9, Tryd.ntmps9
  go_wp2_with fail
  have HWA : Hid (Below w.heap.size w (w.alloc (.cells #[.int .u16 (x : Int), .int .u16 (y : Int), .int .u16 (z : Int)] 24))) := (Below.refl _ _).alloc (Nat.le_refl _) _
  have HSA : Hid ((w.alloc (.cells #[.int .u16 (x : Int), .int .u16 (y : Int), .int .u16 (z : Int)] 24)).heap.size = w.heap.size + 1) := by show _ = _; simp
  have b0 : (w.alloc (.cells #[.int .u16 (x : Int), .int .u16 (y : Int), .int .u16 (z : Int)] 24)).cell? ⟨w.heap.size, 0, none⟩ = some (.int .u16 (x : Int)) := by simp
  have b1 : (w.alloc (.cells #[.int .u16 (x : Int), .int .u16 (y : Int), .int .u16 (z : Int)] 24)).cell? ⟨w.heap.size, 1, none⟩ = some (.int .u16 (y : Int)) := by simp
  have b2 : (w.alloc (.cells #[.int .u16 (x : Int), .int .u16 (y : Int), .int .u16 (z : Int)] 24)).cell? ⟨w.heap.size, 2, none⟩ = some (.int .u16 (z : Int)) := by simp
  generalize w.alloc (.cells #[.int .u16 (x : Int), .int .u16 (y : Int), .int .u16 (z : Int)] 24) = wa at *
  obtain ⟨v, hv⟩ : ∃ v : Nat → Nat, v = fun j => if j = 0 then x else if j = 1 then y else z := ⟨_, rfl⟩
  have hvl : ∀ j, v j < 65536 := fun j => by rw [hv]; dsimp only; split <;> (try split) <;> assumption
  have HV : Hid (∀ j, j < 3 → wa.cell? ⟨w.heap.size, j, none⟩ = some (.int .u16 ((v j : Nat) : Int))) := by
    intro j hj
    rw [hv]
    match j, hj with
    | 0, _ => exact b0
    | 1, _ => exact b1
    | 2, _ => exact b2
  have HVL := Lib.hid hvl
  clear hv hvl b0 b1 b2
  refine (put_any _ kd A n c l _ rfl HN.out (by omega) (HC.out.below HWA.out) (HK.out.below HWA.out)).mono ?_
  rintro e w2 ⟨A1, n1, c1, rfl, hl1, hc1, hm1, hB1, hb1⟩
  have hn1 : n1 = n + 5 + 2 := by rw [← hl1, HFL.out]
  have HL1 := Lib.hid hl1; clear hl1
  have HB1 := Lib.hid hB1; clear hB1
  have HW2 := Lib.hid (HWA.out.trans (hb1.mono HWA.out.size))
  have HV2 : Hid (∀ j, j < 3 → w2.cell? ⟨w.heap.size, j, none⟩ = some (.int .u16 ((v j : Nat) : Int))) := fun j hj => (hb1.cell (p := ⟨w.heap.size, j, none⟩) (by show w.heap.size < wa.heap.size; have := HSA.out; omega)).trans (HV.out j hj)
  have HWS : Hid (w.heap.size < w2.heap.size) := by show _ < _; have := hb1.size; have := HSA.out; omega
  clear hb1 HV
  have HN1 := Lib.hid hn1
  have hn1l : 2 < n1 := by omega
  have hn1u : n1 ≤ 300 := by omega
  clear hn1
  go_wp2_with (at_builtin; go_must (refine wpList_append_bytes _ rfl _ _ 22 rfl w2.heap.size 5 i0 (.int .u8 0) Tryd.underlying22 hi hz0 hz1 hz2 rfl _ 0 [] rfl (own_empty _ 5 w2.heap.size w2.heap.size rfl (Nat.le_refl _)) _ _ _ (frame kd l) rfl HL1.out (HB1.out.alloc _) (by omega) (by simp) ?_))
  intro v1 w3 hown hg
  obtain ⟨g, cap, rfl, hgb, hgs, hcap, hcm⟩ := own_form hown (by omega)
  have HO := Lib.hid (show w3.ownsRow w2.heap.size 5 1 (.slice (some ⟨g, 0, none⟩) n1 cap) n1 ((Frm.uv (l.length + 5) ++ sealed (kd :: l)).map bv) by simpa [HFR.out] using hown)
  have HG := Lib.hid (((Below.refl w2.heap.size w2).alloc (Nat.le_refl _) _).grown hg (by simp) (by simp [Value.ownBlock]))
  clear hown hg
  go_wp2_with fail
  generalize Frm.uv (l.length + 5) = U at *
  generalize sealed (kd :: l) = S at *
  go_loopw [11] (fun i wr => ∃ k : Nat, k ≤ 3 ∧ i = .int .i64 k ∧ wr.ownsRow w2.heap.size 5 1 (.slice (some ⟨g, 0, none⟩) n1 cap) n1 ((U ++ turn3 S (fun j => v j % (8 * (n + 5) + 1)) k).map bv) ∧ Below w2.heap.size w2 wr) (fun i _ => 3 - (intOf i).toNat)
  case atStart => exact ⟨0, by omega, rfl, HO.out, HG.out⟩
  case round =>
    obtain ⟨k, hk, rfl, hown, hb⟩ := hrel
    have HO' := Lib.hid hown; clear hown
    have HG' := Lib.hid hb; clear hb
    clear HO HG
    by_cases hk3 : k < 3
    · have hcell := (HG'.out.cell (p := ⟨w.heap.size, k, none⟩) HWS.out).trans (HV2.out k hk3)
      have hq := HVL.out k
      have HT : Hid (turn3 S (fun j => v j % (8 * (n + 5) + 1)) (k + 1) = Crc.flip (turn3 S (fun j => v j % (8 * (n + 5) + 1)) k) (v k % (8 * (n + 5) + 1))) := rfl
      have HTL := Lib.hid (turn3_length S (fun j => v j % (8 * (n + 5) + 1)) k)
      generalize turn3 S (fun j => v j % (8 * (n + 5) + 1)) k = t at *
      generalize v k = q at *
      obtain ⟨m, hm⟩ : ∃ m : Nat, m = q % (8 * (n + 5) + 1) := ⟨_, rfl⟩
      have em : (q : Int) % (8 * ((n1 : Int) - 2) + 1) = (m : Int) := by
        have e1 : (8 * ((n1 : Int) - 2) + 1) = ((8 * (n + 5) + 1 : Nat) : Int) := by have := HN1.out; omega
        rw [hm, e1]; simp
      have hm1 : m ≤ 8 * (n + 5) := by rw [hm]; have := Nat.mod_lt q (show 0 < 8 * (n + 5) + 1 by omega); omega
      rw [← hm] at HT
      clear hm
      have hm1' : (m : Int) ≤ 8 * ((n1 : Int) - 2) := by have := HN1.out; omega
      by_cases hlt : m < 8 * (n + 5)
      · have hlt' : (m : Int) < 8 * ((n1 : Int) - 2) := by have := HN1.out; omega
        have htl : m / 8 < t.length := by rw [HTL.out, HSL.out]; omega
        have c1' : wr.cell? ⟨g, 2 + m / 8, none⟩ = some (bv t[m / 8]) := by
          rw [HO'.out.cellAt (2 + m / 8) (by have := HN1.out; omega), List.map_append, List.getElem?_append_right (by simp [HH.out])]
          simp [HH.out, List.getElem?_eq_getElem htl]
        unfold bv at c1'
        have f1 : wr.frozen? ⟨g, 2 + m / 8, none⟩ = false := HO'.out.frozenAt (2 + m / 8)
        have hcc := Crc.toNat_lt t[m / 8]
        have HST := HO'.out.stored (2 + m / 8) (bv (t[m / 8] ^^^ Crc.mask (m % 8)))
        generalize hcd : t[m / 8] = cc at *
        have HCD := Lib.hid hcd; clear hcd
        have HX := Lib.hid (xor_mask cc (m % 8) (Nat.mod_lt _ (by decide)))
        have HST1 := Lib.hid HST.1
        have HST2 := Lib.hid HST.2
        clear HST
        have hidx : 2 + m / 8 < n1 := by have := HN1.out; omega
        have hidx' : (2 : Int) + (m : Int) / 8 < (n1 : Int) := by omega
        have hidx0 : (0 : Int) ≤ 2 + (m : Int) / 8 := by omega
        go_wp2_with fail
        go_roundw
        case rel =>
          rw [HX.out]
          refine ⟨k + 1, by omega, by go_num, ?_, HG'.out.grown HST2.out HG'.out.size (by intro j hj; injection hj with hj; omega)⟩
          have e : U ++ t.set (m / 8) (cc ^^^ Crc.mask (m % 8)) = (U ++ t).set (2 + m / 8) (cc ^^^ Crc.mask (m % 8)) := by
            rw [List.set_append_right _ _ (by rw [HH.out]; omega), HH.out, Nat.add_sub_cancel_left]
          rw [HT.out]
          unfold Crc.flip
          rw [dif_pos htl, HCD.out, e, List.map_set]
          exact HST1.out
        case measure => simp [intOf]; omega
      · have hge : 8 * (n + 5) ≤ m := by omega
        have hge' : 8 * ((n1 : Int) - 2) ≤ (m : Int) := by have := HN1.out; omega
        go_wp2_with fail
        go_roundw
        case rel => exact ⟨k + 1, by omega, by go_num, by rw [HT.out, Crc.flip_none t m (by rw [HTL.out, HSL.out]; exact hge)]; exact HO'.out, HG'.out⟩
        case measure => simp [intOf]; omega
    · obtain rfl : k = 3 := by omega
      have her := HER.out (fun j => v j % (8 * (n + 5) + 1))
      have HTL := Lib.hid (turn3_length S (fun j => v j % (8 * (n + 5) + 1)) 3)
      generalize turn3 S (fun j => v j % (8 * (n + 5) + 1)) 3 = T at *
      obtain ⟨β, e2, e3⟩ : ∃ β : Bool, (frame kd l == U ++ T) = β ∧ (β = true ↔ T = S) := by
        refine ⟨_, rfl, ?_⟩
        rw [beq_iff_eq, HFR.out, List.append_right_inj]
        exact eq_comm
      have HE : Hid ((Frm.nextS (U ++ T)).2.2.2 = if β then 0 else 5) := by
        show _ = _
        cases hβ : β
        · rw [if_neg (by simp)]
          exact her.2 (fun h => by have := e3.2 h; rw [hβ] at this; cases this)
        · rw [if_pos rfl]
          exact her.1 (e3.1 hβ)
      have HDL : Hid ((U ++ T).length = n1) := by show _ = _; rw [List.length_append, HH.out, HTL.out, HSL.out]; have := HN1.out; omega
      clear her e3
      generalize U ++ T = D at *
      obtain ⟨A', c', hv', hn', _, _, hB'⟩ := bytes_of_own HO'.out
      injection hv' with q1 q2 q3
      subst q1 q3
      clear q2 hn'
      have HB' := Lib.hid hB'; clear hB'
      have tt := text_toList
      have HW3 := Lib.hid (HW2.out.trans (HG'.out.mono (Nat.le_of_lt (by have := HW2.out.size; have := HWS.out; omega))))
      clear HVL HV2
      go_wp2_with fail
      refine (next_any (some ⟨g, 0, none⟩) n1 cap D _ HDL.out (by omega) hcap HB'.out (HK.out.below HW3.out)).mono ?_
      obtain ⟨⟨kd', dt, nn, er⟩, hr⟩ : ∃ r, Frm.nextS D = r := ⟨_, rfl⟩
      rw [hr] at HE ⊢
      clear hr
      rintro e w4 ⟨A4, n4, c4, rfl, hl4, hc4, hm4, hB4, hb4⟩
      clear hB4 hl4
      have HER2 : er = if β then 0 else 5 := HE.out
      have HW4 := Lib.hid (HW3.out.trans (hb4.mono HW3.out.size))
      have x1 := text_at (c := c1) HL1.out ((HB1.out.below HG'.out).below hb4) _ (Below.refl _ _)
      have x2 := text_at (c := cap) HDL.out (HB'.out.below hb4) _ (Below.refl _ _)
      clear hb4
      cases β
      · have her5 : er = 5 := HER2
        subst her5
        clear HER2 HE
        go_wp2_with fail
        refine (awake04_any _ (HK.out.below HW4.out)).mono ?_
        rintro e w5 ⟨rfl, hb5⟩
        have HW5 := Lib.hid (HW4.out.trans (hb5.mono HW4.out.size)); clear hb5
        go_wp2_with fail
        go_ret
        exact ⟨rfl, HW5.out⟩
      · have her0 : er = 0 := HER2
        subst her0
        clear HER2 HE
        go_wp2_with fail
        refine (awake04_any _ (HK.out.below HW4.out)).mono ?_
        rintro e w5 ⟨rfl, hb5⟩
        have HW5 := Lib.hid (HW4.out.trans (hb5.mono HW4.out.size)); clear hb5
        go_wp2_with fail
        go_ret
        exact ⟨rfl, HW5.out⟩

theorem law_frameTurns (ki : Int) (kd : UInt8) (A : Option Addr) (n c : Nat) (x y z : Nat) (l : List UInt8) (w : World) (hki : ki = ((kd.toNat : Nat) : Int)) (hn : l.length = n) (_ : n ≤ 140737488355328) (hx : x < 65536) (hy : y < 65536) (hz : z < 65536) (hB : Bytes w A l) (hk : Known w) :
    Calls Tryd.prog 9 #[.int .u8 ki, .slice A n c, .agg #[.int .u16 (x : Int), .int .u16 (y : Int), .int .u16 (z : Int)]] w (Yes w) := by
  by_cases h : n ≤ 200
  · by_cases h2 : n ≤ 122
    · exact law_frameTurns_small ki kd A n c x y z l w hki hn h2 h hx hy hz hB hk
    · exact law_frameTurns_big ki kd A n c x y z l w hki hn (by omega) h hx hy hz hB hk
  · exact law_frameTurns_out ki A n c x y z w (by omega) hk
end Go.Proofs.YtpdbbiokndhghaaDoor
