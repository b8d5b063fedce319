/-
  CONTRACTS of wire.Uvarint (from nothing on), the reference's Uvarint, frame.Put, the reference's Frame.
-/
import Derived.Test.YtpdbbiokndhghaaDoorFrmB
import Derived.Test.YtpdbbiokndhghaaDoorConC
namespace Go.Proofs.YtpdbbiokndhghaaDoor
open Go Go.RowKit Go.Proofs

/-- what a call that hands back new bytes of its own leaves -/
def Own (w : World) (l : List UInt8) (e : Ending) (w' : World) : Prop :=
  ∃ v n, e = .returned v ∧ n = l.length ∧ w'.ownsRow w.heap.size 5 1 v n (l.map bv) ∧ Below w.heap.size w w'

theorem uv_len (k : Nat) : ∀ n : Nat, n < 128 ^ (k + 1) → (Frm.uv n).length ≤ k + 1 := by
  induction k with
  | zero => intro n h; rw [Frm.uv_small n (by simpa using h)]; simp
  | succ k ih =>
    intro n h
    rcases Nat.lt_or_ge n 128 with h1 | h1
    · rw [Frm.uv_small n h1]; simp
    · rw [Frm.uv_big n h1, List.length_cons]
      have := ih (n / 128) (by rw [Nat.pow_succ] at h; omega)
      omega
theorem uv_len10 (n : Nat) (h : n < 18446744073709551616) : (Frm.uv n).length ≤ 10 := uv_len 9 n (by omega)

theorem bytes_one (w : World) (c : UInt8) (b : Nat) (hb : b = w.heap.size) : Bytes (w.alloc (.cells #[.int .u8 ((c.toNat : Nat) : Int)] 5)) (some ⟨b, 0, none⟩) [c] := by
  subst hb
  exact bytes_lit w [c] 5 (0, 0)

theorem own_any (w : World) : Calls Tryd.prog 35 #[.slice none 0 0] w fun e w' => e = .returned (.slice none 0 0) ∧ w = w' := by
  go_enter Tryd.func35, Tryd.ntmps35
  go_wp2
  go_ret
  exact ⟨rfl, rfl⟩

theorem hi_byte (m : Nat) : Go.bits BinOp.or IntKind.u8 ((m : Int) % 256) 128 = (((UInt8.ofNat (m % 128 + 128)).toNat : Nat) : Int) := by
  have e : (m : Int) % 256 = ((m % 256 : Nat) : Int) := by omega
  rw [e, show (128 : Int) = ((128 : Nat) : Int) from rfl, u8_or_nat _ _ (by omega) (by omega), Frm.toNat_ofNat_lt _ (by omega)]
  congr 1
  have h : ∀ x : Nat, x < 256 → x ||| 128 = x % 128 + 128 := by decide +kernel
  rw [h _ (by omega)]
  omega


theorem wrap_div (m : Nat) (h : m < 18446744073709551616) : IntKind.u64.wrap ((m : Int) / 128) = ((m / 128 : Nat) : Int) := by
  rw [IntWalk.u64_in _ (by omega)]; omega

theorem slice_lit1 (w : World) (c : UInt8) : Bytes (w.alloc (.cells #[.int .u8 ((c.toNat : Nat) : Int)] 5)) (some ⟨w.heap.size, 0, none⟩) [c] := bytes_one w c _ rfl

set_option maxHeartbeats 400000 in
set_option maxRecDepth 4000 in
theorem uvarint_any (ni : Int) (N : Nat) (w : World) (hni : ni = (N : Int)) (hN : N < 18446744073709551616) :
    Calls Tryd.prog 30 #[.slice none 0 0, .int .u64 ni] w (Own w (Frm.uv N)) := by
  subst hni
  have HL := uv_len10 N hN
  have HN := Lib.hid hN
  clear hN
  obtain ⟨i0, hi, hz0, hz1, hz2⟩ := info_parts info5
  go_enter Tryd.func30, Tryd.ntmps30
  go_wp2_with fail
  refine (own_any _).mono ?_
  rintro e w' ⟨rfl, rfl⟩
  go_wp2_with fail
  go_loopw [0, 1] (fun v x wr => ∃ (m : Nat) (acc : List UInt8), x = .int .u64 m ∧ m ≤ N ∧ Frm.uv N = acc ++ Frm.uv m ∧ wr.ownsRow w.heap.size 5 1 v acc.length (acc.map bv) ∧ Below w.heap.size w wr) (fun _ x _ => (intOf x).toNat)
  case atStart => exact ⟨N, [], rfl, Nat.le_refl _, rfl, World.ownsRow_nil _ _ _ _, Below.refl _ _⟩
  case round =>
    obtain ⟨m, acc, rfl, hm, hu, hown, hb⟩ := hrel
    have hal : acc.length ≤ 10 := by rw [hu, List.length_append] at HL; omega
    have HM := Lib.hid (Nat.lt_of_le_of_lt hm HN.out)
    have HM2 := Lib.hid hm
    clear hm
    have HU := Lib.hid hu; clear hu
    have HO := Lib.hid hown; clear hown
    have HB := Lib.hid hb; clear hb
    clear HL
    by_cases hbig : 128 ≤ m
    · obtain ⟨c, hc⟩ : ∃ c : UInt8, c = UInt8.ofNat (m % 128 + 128) := ⟨_, rfl⟩
      have e1 := hi_byte m
      rw [← hc] at e1
      have HCC := Lib.hid hc; clear hc
      go_wp2_with (at_builtin; refine wpList_append_bytes _ rfl _ _ 22 rfl w.heap.size 5 i0 (.int .u8 0) Tryd.underlying22 hi hz0 hz1 hz2 rfl _ _ _ rfl (HO.out.alloc _) _ _ _ [c] rfl rfl (bytes_one _ c _ rfl) (by simp; omega) (by have := HB.out.size; simp; omega) ?_)
      intro v1 w1 hown hg
      have hg' := (World.grownBy_alloc wr _ _).trans hg
      have HO1 := Lib.hid hown; clear hown
      have HB1 := Lib.hid (HB.out.grown hg' HB.out.size (fun k hk => (HO.out.lt k hk).1)); clear hg'
      clear hg
      go_wp2
      go_roundw
      case rel =>
        refine ⟨m / 128, acc ++ [c], by go_num, Nat.le_trans (Nat.div_le_self _ _) HM2.out, ?_, by simpa using HO1.out, HB1.out⟩
        rw [HU.out, Frm.uv_big m hbig, HCC.out]; simp
      case measure => simp [intOf]; omega
    · obtain ⟨c, hc⟩ : ∃ c : UInt8, c = UInt8.ofNat m := ⟨_, rfl⟩
      obtain rfl : m = c.toNat := by rw [hc, Frm.toNat_ofNat_lt _ (by omega)]
      have HCC := Lib.hid hc; clear hc
      go_wp2_with (at_builtin; refine wpList_append_bytes _ rfl _ _ 22 rfl w.heap.size 5 i0 (.int .u8 0) Tryd.underlying22 hi hz0 hz1 hz2 rfl _ _ _ rfl (HO.out.alloc _) _ _ _ [c] rfl rfl (bytes_one _ c _ rfl) (by simp; omega) (by have := HB.out.size; simp; omega) ?_)
      intro v1 w1 hown hg
      have hg' := (World.grownBy_alloc wr _ _).trans hg
      have HO1 := Lib.hid hown; clear hown
      have HB1 := Lib.hid (HB.out.grown hg' HB.out.size (fun k hk => (HO.out.lt k hk).1)); clear hg'
      clear hg
      go_wp2
      go_ret
      rw [HU.out, Frm.uv_small _ (by omega), ← HCC.out]
      exact ⟨_, acc.length + 1, rfl, by simp, by rw [List.map_append]; exact HO1.out, HB1.out⟩

set_option maxHeartbeats 400000 in
set_option maxRecDepth 4000 in
theorem refUvarint_any (ni : Int) (N : Nat) (w : World) (hni : ni = (N : Int)) (hN : N < 18446744073709551616) :
    Calls Tryd.prog 31 #[.int .u64 ni] w (Own w (Frm.uv N)) := by
  subst hni
  have HL := uv_len10 N hN
  have HN := Lib.hid hN
  clear hN
  obtain ⟨i0, hi, hz0, hz1, hz2⟩ := info_parts info5
  go_enter Tryd.func31, Tryd.ntmps31
  go_wp2_with fail
  go_loopw [3, 0] (fun v x wr => ∃ (m : Nat) (acc : List UInt8), x = .int .u64 m ∧ m ≤ N ∧ Frm.uv N = acc ++ Frm.uv m ∧ wr.ownsRow w.heap.size 5 1 v acc.length (acc.map bv) ∧ Below w.heap.size w wr) (fun _ x _ => (intOf x).toNat)
  case atStart => exact ⟨N, [], rfl, Nat.le_refl _, rfl, World.ownsRow_nil _ _ _ _, Below.refl _ _⟩
  case round =>
    obtain ⟨m, acc, rfl, hm, hu, hown, hb⟩ := hrel
    have hal : acc.length ≤ 10 := by rw [hu, List.length_append] at HL; omega
    have HM := Lib.hid (Nat.lt_of_le_of_lt hm HN.out)
    have HM2 := Lib.hid hm
    clear hm
    have HU := Lib.hid hu; clear hu
    have HO := Lib.hid hown; clear hown
    have HB := Lib.hid hb; clear hb
    clear HL
    by_cases hbig : 128 ≤ m
    · have ew := wrap_div m HM.out
      obtain ⟨c, hc⟩ : ∃ c : UInt8, c = UInt8.ofNat (m % 128 + 128) := ⟨_, rfl⟩
      have e1 : (m : Int) % 128 + 128 = ((c.toNat : Nat) : Int) := by rw [hc, Frm.toNat_ofNat_lt _ (by omega)]; omega
      have hc8 : c.toNat < 256 := Crc.toNat_lt _
      have HCC := Lib.hid hc; clear hc
      go_wp2_with (at_builtin; refine wpList_append_bytes _ rfl _ _ 22 rfl w.heap.size 5 i0 (.int .u8 0) Tryd.underlying22 hi hz0 hz1 hz2 rfl _ _ _ rfl (HO.out.alloc _) _ _ _ [c] rfl rfl (bytes_one _ c _ rfl) (by simp; omega) (by have := HB.out.size; simp; omega) ?_)
      intro v1 w1 hown hg
      have hg' := (World.grownBy_alloc wr _ _).trans hg
      have HO1 := Lib.hid hown; clear hown
      have HB1 := Lib.hid (HB.out.grown hg' HB.out.size (fun k hk => (HO.out.lt k hk).1)); clear hg'
      clear hg
      go_wp2
      go_roundw
      case rel =>
        refine ⟨m / 128, acc ++ [c], by go_num, Nat.le_trans (Nat.div_le_self _ _) HM2.out, ?_, by simpa using HO1.out, HB1.out⟩
        rw [HU.out, Frm.uv_big m hbig, HCC.out]; simp
      case measure => simp [intOf]; omega
    · obtain ⟨c, hc⟩ : ∃ c : UInt8, c = UInt8.ofNat m := ⟨_, rfl⟩
      obtain rfl : m = c.toNat := by rw [hc, Frm.toNat_ofNat_lt _ (by omega)]
      have HCC := Lib.hid hc; clear hc
      go_wp2_with (at_builtin; refine wpList_append_bytes _ rfl _ _ 22 rfl w.heap.size 5 i0 (.int .u8 0) Tryd.underlying22 hi hz0 hz1 hz2 rfl _ _ _ rfl (HO.out.alloc _) _ _ _ [c] rfl rfl (bytes_one _ c _ rfl) (by simp; omega) (by have := HB.out.size; simp; omega) ?_)
      intro v1 w1 hown hg
      have hg' := (World.grownBy_alloc wr _ _).trans hg
      have HO1 := Lib.hid hown; clear hown
      have HB1 := Lib.hid (HB.out.grown hg' HB.out.size (fun k hk => (HO.out.lt k hk).1)); clear hg'
      clear hg
      go_wp2
      go_ret
      rw [HU.out, Frm.uv_small _ (by omega), ← HCC.out]
      exact ⟨_, acc.length + 1, rfl, by simp, by rw [List.map_append]; exact HO1.out, HB1.out⟩

/-- a frame: how long the body is, its sum, its kind, its bytes -/
def frame (kd : UInt8) (b : List UInt8) : List UInt8 := Frm.uv (b.length + 5) ++ sealed (kd :: b)

theorem sealed_len (l : List UInt8) : (sealed l).length = l.length + 4 := by simp [sealed, be4]

set_option maxHeartbeats 400000 in
/-- frame.Put -/
theorem put_any (ki : Int) (kd : UInt8) (A : Option Addr) (n c : Nat) (l : List UInt8) (w : World) (hki : ki = ((kd.toNat : Nat) : Int)) (hn : l.length = n) (hl : n ≤ 1048571) (hB : Bytes w A l) (hk : Known w) :
    Calls Tryd.prog 20 #[.int .u8 ki, .slice A n c] w fun e w' => ∃ A' n' c', e = .returned (.tuple #[.slice A' n' c', .int .i64 0]) ∧ (frame kd l).length = n' ∧ n' ≤ c' ∧ c' ≤ maxLen ∧ Bytes w' A' (frame kd l) ∧ Below w.heap.size w w' := by
  subst hn hki
  have HK := Lib.hid hk; clear hk
  have HC := Lib.hid hB; clear hB
  obtain ⟨i0, hi, hz0, hz1, hz2⟩ := info_parts info5
  go_enter Tryd.func20, Tryd.ntmps20
  go_wp2_with (at_builtin; refine wpList_append_bytes _ rfl _ _ 22 rfl w.heap.size 5 i0 (.int .u8 0) Tryd.underlying22 hi hz0 hz1 hz2 rfl _ 1 ([kd].map bv) rfl (own_lit w [kd] 5 _ (Nat.le_refl _) (by simp [maxLen])) _ _ _ l rfl rfl (HC.out.alloc _) (by omega) (by simp) ?_)
  intro v1 w1 hown hg
  have hb1 := ((Below.refl w.heap.size w).alloc (Nat.le_refl _) _).grown hg (by simp) (by simp [Value.ownBlock])
  obtain ⟨A1, c1, rfl, h1, h2, h3, h4⟩ := bytes_of_own (l := kd :: l) hown
  have HB1 := Lib.hid hb1; clear hb1
  have H4 := Lib.hid h4; clear h4
  clear hown hg
  go_wp2_with fail
  refine (seal_any _ _ _ _ _ h1 (by omega) H4.out (HK.out.below HB1.out)).mono ?_
  rintro e w2 ⟨A2, n2, c2, rfl, hs1, hs2, hs3, hs4, hs5⟩
  have hsl := sealed_len (kd :: l)
  have HB2 := Lib.hid (HB1.out.trans (hs5.mono HB1.out.size)); clear hs5
  have HS4 := Lib.hid hs4; clear hs4
  have hn2 : n2 = l.length + 5 := by rw [← hs1, hsl]; simp
  subst hn2
  have ew : IntKind.u64.wrap ((l.length + 5 : Nat) : Int) = ((l.length + 5 : Nat) : Int) := by rw [IntWalk.u64_in _ (by omega)]
  go_wp2_with fail
  refine (uvarint_any _ (l.length + 5) _ (by go_num) (by omega)).mono ?_
  rintro e w3 ⟨v3, n3, rfl, hu1, hu2, hu3⟩
  have hul := uv_len10 (l.length + 5) (by omega)
  have HB3 := Lib.hid (HB2.out.trans (hu3.mono HB2.out.size))
  have HB3a := Lib.hid hu3; clear hu3
  have HO3 := Lib.hid hu2; clear hu2
  have hn3 : n3 ≤ 10 := by omega
  go_wp2_with (at_builtin; refine wpList_append_bytes _ rfl _ _ 22 rfl w2.heap.size 5 i0 (.int .u8 0) Tryd.underlying22 hi hz0 hz1 hz2 rfl _ _ _ rfl HO3.out _ _ _ (sealed (kd :: l)) rfl hs1 (HS4.out.below HB3a.out) (by omega) HB3a.out.size ?_)
  intro v4 w4 hown hg
  have HO4 := Lib.hid hown; clear hown
  have HB4 := Lib.hid (HB3.out.grown hg HB3.out.size (fun k hk => Nat.le_trans HB2.out.size (HO3.out.lt k hk).1)); clear hg
  go_wp2
  go_ret2
  obtain ⟨A5, c5, rfl, h51, h52, h53, h54⟩ := bytes_of_own (l := frame kd l) (by rw [frame, List.map_append]; exact HO4.out)
  exact ⟨_, _, _, rfl, h51, h52, h53, h54, HB4.out⟩

set_option maxHeartbeats 400000 in
/-- the reference's Frame -/
theorem refFrame_any (ki : Int) (kd : UInt8) (A : Option Addr) (n c : Nat) (l : List UInt8) (w : World) (hki : ki = ((kd.toNat : Nat) : Int)) (hn : l.length = n) (hl : n ≤ 1048571) (hB : Bytes w A l) :
    Calls Tryd.prog 22 #[.int .u8 ki, .slice A n c] w (Made w (frame kd l)) := by
  subst hn hki
  have HC := Lib.hid hB; clear hB
  obtain ⟨i0, hi, hz0, hz1, hz2⟩ := info_parts info5
  go_enter Tryd.func22, Tryd.ntmps22
  go_wp2_with (at_builtin; refine wpList_append_bytes _ rfl _ _ 22 rfl w.heap.size 5 i0 (.int .u8 0) Tryd.underlying22 hi hz0 hz1 hz2 rfl _ 1 ([kd].map bv) rfl (own_lit w [kd] 5 _ (Nat.le_refl _) (by simp [maxLen])) _ _ _ l rfl rfl (HC.out.alloc _) (by omega) (by simp) ?_)
  intro v1 w1 hown hg
  have hb1 := ((Below.refl w.heap.size w).alloc (Nat.le_refl _) _).grown hg (by simp) (by simp [Value.ownBlock])
  obtain ⟨A1, c1, rfl, h1, h2, h3, h4⟩ := bytes_of_own (l := kd :: l) hown
  have HB1 := Lib.hid hb1; clear hb1
  have H4 := Lib.hid h4; clear h4
  clear hown hg
  go_wp2_with fail
  refine (refSeal_any _ _ _ _ _ h1 (by omega) H4.out).mono ?_
  rintro e w2 ⟨A2, n2, c2, rfl, hs1, hs2, hs3, hs4, hs5⟩
  have hsl := sealed_len (kd :: l)
  have HB2 := Lib.hid (HB1.out.trans (hs5.mono HB1.out.size)); clear hs5
  have HS4 := Lib.hid hs4; clear hs4
  have hn2 : n2 = l.length + 5 := by rw [← hs1, hsl]; simp
  subst hn2
  have ew : IntKind.u64.wrap ((l.length + 5 : Nat) : Int) = ((l.length + 5 : Nat) : Int) := by rw [IntWalk.u64_in _ (by omega)]
  go_wp2_with fail
  refine (refUvarint_any _ (l.length + 5) _ (by go_num) (by omega)).mono ?_
  rintro e w3 ⟨v3, n3, rfl, hu1, hu2, hu3⟩
  have hul := uv_len10 (l.length + 5) (by omega)
  have HB3 := Lib.hid (HB2.out.trans (hu3.mono HB2.out.size))
  have HB3a := Lib.hid hu3; clear hu3
  have HO3 := Lib.hid hu2; clear hu2
  have hn3 : n3 ≤ 10 := by omega
  go_wp2_with (at_builtin; refine wpList_append_bytes _ rfl _ _ 22 rfl w2.heap.size 5 i0 (.int .u8 0) Tryd.underlying22 hi hz0 hz1 hz2 rfl _ _ _ rfl HO3.out _ _ _ (sealed (kd :: l)) rfl hs1 (HS4.out.below HB3a.out) (by omega) HB3a.out.size ?_)
  intro v4 w4 hown hg
  have HO4 := Lib.hid hown; clear hown
  have HB4 := Lib.hid (HB3.out.grown hg HB3.out.size (fun k hk => Nat.le_trans HB2.out.size (HO3.out.lt k hk).1)); clear hg
  go_wp2
  go_ret
  exact made_of (l := frame kd l) (by rw [frame, List.map_append]; exact HO4.out) HB4.out

set_option maxHeartbeats 400000 in
/-- frame.Put, too long -/
theorem put_long (ki : Int) (A : Option Addr) (n c : Nat) (w : World) (hl : 1048571 < n) :
    Calls Tryd.prog 20 #[.int .u8 ki, .slice A n c] w fun e w' => e = .returned (.tuple #[.slice none 0 0, .int .i64 3]) ∧ w = w' := by
  go_enter Tryd.func20, Tryd.ntmps20
  go_wp2
  go_ret2
  exact ⟨rfl, rfl⟩
end Go.Proofs.YtpdbbiokndhghaaDoor
