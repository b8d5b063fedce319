/-
  CONTRACTS of crc.Seal, Open, the reference's Seal, slices.Clone over bytes, and of the law's own question 'awake'.
-/
import Derived.Test.YtpdbbiokndhghaaDoorConA
import Derived.Lib.SlBytesConst
namespace Go.Proofs.YtpdbbiokndhghaaDoor
open Go Go.RowKit Go.Proofs

/-- what a call that hands back new bytes leaves -/
def Made (w : World) (l : List UInt8) (e : Ending) (w' : World) : Prop :=
  ∃ A n c, e = .returned (.slice A n c) ∧ l.length = n ∧ n ≤ c ∧ c ≤ maxLen ∧ Bytes w' A l ∧ Below w.heap.size w w'

theorem made_of {w w1 : World} {base : Nat} {e : TypeId} {v : Value} {n : Nat} {l : List UInt8} (h : w1.ownsRow base e 1 v n (l.map bv)) (hb : Below w.heap.size w w1) : Made w l (.returned v) w1 := by
  obtain ⟨A, c, rfl, rfl, h2, h3, h4⟩ := bytes_of_own h
  exact ⟨A, _, c, rfl, rfl, h2, h3, h4, hb⟩

set_option maxHeartbeats 400000 in
/-- slices.Clone -/
theorem clone_any (A : Option Addr) (n c : Nat) (l : List UInt8) (w : World) (hn : l.length = n) (hl : n ≤ 140737488355328) (hB : Bytes w A l) :
    Calls Tryd.prog 29 #[.slice A n c] w (Made w l) := by
  obtain ⟨i0, hi, hz0, hz1, hz2⟩ := info_parts info5
  rcases A with _ | a
  · have he : l = [] := by
      rcases Nat.eq_zero_or_pos l.length with h0 | h0
      · exact List.eq_nil_of_length_eq_zero h0
      · obtain ⟨_, _, e, _⟩ := hB h0; cases e
    subst he
    have hn0 : n = 0 := by simpa using hn.symm
    subst hn0
    clear hn hB
    have qN := fun W => Lib.run_eql_slice_nil W 22 5 none 0 c 0 0 Tryd.underlying22
    go_enter Tryd.func29, Tryd.ntmps29
    go_wp2
    go_ret
    exact ⟨none, 0, 0, rfl, rfl, Nat.le_refl _, by decide, Bytes.none_ _ _, Below.refl _ _⟩
  · subst hn
    have qN := fun W => Lib.run_eql_slice_nil W 22 5 (some a) l.length c 0 0 Tryd.underlying22
    have HC := Lib.hid hB; clear hB
    go_enter Tryd.func29, Tryd.ntmps29
    go_wp2_with (at_builtin; refine wpList_append_bytes _ rfl _ _ 22 rfl w.heap.size 5 i0 (.int .u8 0) Tryd.underlying22 hi hz0 hz1 hz2 rfl _ 0 [] rfl (own_lit _ [] 5 _ (Nat.le_refl _) (by decide)) _ _ _ l rfl rfl (HC.out.alloc _) (by omega) (by simp) ?_)
    intro v1 w1 hown hg
    have HO := Lib.hid hown; clear hown
    have HG := Lib.hid (((Below.refl w.heap.size w).alloc (Nat.le_refl _) _).grown hg (by simp) (by simp [Value.ownBlock])); clear hg
    go_wp2
    go_ret
    exact made_of (by simpa using HO.out) HG.out

/-- a number's four bytes, the highest first -/
def be4 (s : Nat) : List UInt8 := [UInt8.ofNat (s / 16777216), UInt8.ofNat (s / 65536), UInt8.ofNat (s / 256), UInt8.ofNat s]
theorem be4_cells (s : Nat) (h : s < 4294967296) : (be4 s).map bv = [.int .u8 ((s : Int) / 16777216), .int .u8 ((s : Int) / 65536 % 256), .int .u8 ((s : Int) / 256 % 256), .int .u8 ((s : Int) % 256)] := by
  simp only [be4, List.map_cons, List.map_nil, bv, UInt8.toNat_ofNat']
  have e1 : ((s / 16777216 % 2 ^ 8 : Nat) : Int) = (s : Int) / 16777216 := by omega
  have e2 : ((s / 65536 % 2 ^ 8 : Nat) : Int) = (s : Int) / 65536 % 256 := by omega
  have e3 : ((s / 256 % 2 ^ 8 : Nat) : Int) = (s : Int) / 256 % 256 := by omega
  have e4 : ((s % 2 ^ 8 : Nat) : Int) = (s : Int) % 256 := by omega
  rw [e1, e2, e3, e4]
theorem own_be4 (w : World) (s : Nat) (h : s < 4294967296) :
    (w.alloc (.cells #[.int .u8 ((s : Int) / 16777216), .int .u8 ((s : Int) / 65536 % 256), .int .u8 ((s : Int) / 256 % 256), .int .u8 ((s : Int) % 256)] 5)).ownsRow w.heap.size 5 1 (.slice (some ⟨w.heap.size, 0, none⟩) 4 4) 4 ((be4 s).map bv) := by
  have := own_lit w (be4 s) 5 w.heap.size (Nat.le_refl _) (by simp [be4, maxLen])
  rw [be4_cells s h] at this ⊢
  exact this
/-- bytes behind their sum -/
def sealed (l : List UInt8) : List UInt8 := be4 (Crc.sumOf l) ++ l

set_option maxHeartbeats 400000 in
/-- crc.Seal -/
theorem seal_any (A : Option Addr) (n c : Nat) (l : List UInt8) (w : World) (hn : l.length = n) (hl : n + 4 ≤ 140737488355328) (hB : Bytes w A l) (hk : Known w) :
    Calls Tryd.prog 17 #[.slice A n c] w (Made w (sealed l)) := by
  subst hn
  have HK := Lib.hid hk; clear hk
  have HC := Lib.hid hB; clear hB
  obtain ⟨i0, hi, hz0, hz1, hz2⟩ := info_parts info5
  have hs := Crc.sumOf_lt l
  go_enter Tryd.func17, Tryd.ntmps17
  go_wp2_with fail
  refine (of_any _ _ _ l _ rfl (by omega) HC.out HK.out).mono ?_
  rintro e w' ⟨rfl, rfl⟩
  have HS : Hid (sealed l = be4 (Crc.sumOf l) ++ l) := rfl
  generalize Crc.sumOf l = s at *
  go_wp2_with (at_builtin; refine wpList_append_bytes _ rfl _ _ 22 rfl w.heap.size 5 i0 (.int .u8 0) Tryd.underlying22 hi hz0 hz1 hz2 rfl _ 4 _ rfl (own_be4 w s hs) _ _ _ l rfl rfl (HC.out.alloc _) (by omega) (by simp) ?_)
  intro v1 w1 hown hg
  have HO := Lib.hid hown; clear hown
  have HG := Lib.hid (((Below.refl w.heap.size w).alloc (Nat.le_refl _) _).grown hg (by simp) (by simp [Value.ownBlock])); clear hg
  go_wp2
  go_ret
  rw [HS.out]
  exact made_of (by rw [List.map_append]; exact HO.out) HG.out

set_option maxHeartbeats 400000 in
/-- the reference's Seal -/
theorem refSeal_any (A : Option Addr) (n c : Nat) (l : List UInt8) (w : World) (hn : l.length = n) (hl : n + 4 ≤ 140737488355328) (hB : Bytes w A l) :
    Calls Tryd.prog 19 #[.slice A n c] w (Made w (sealed l)) := by
  subst hn
  have HC := Lib.hid hB; clear hB
  obtain ⟨i0, hi, hz0, hz1, hz2⟩ := info_parts info5
  have hs := Crc.sumOf_lt l
  go_enter Tryd.func19, Tryd.ntmps19
  go_wp2_with fail
  refine (refOf_any _ _ _ l _ rfl (by omega) HC.out).mono ?_
  rintro e w' ⟨rfl, rfl⟩
  have HS : Hid (sealed l = be4 (Crc.sumOf l) ++ l) := rfl
  generalize Crc.sumOf l = s at *
  go_wp2_with (at_builtin; refine wpList_append_bytes _ rfl _ _ 22 rfl w.heap.size 5 i0 (.int .u8 0) Tryd.underlying22 hi hz0 hz1 hz2 rfl _ 4 _ rfl (own_be4 w s hs) _ _ _ l rfl rfl (HC.out.alloc _) (by omega) (by simp) ?_)
  intro v1 w1 hown hg
  have HO := Lib.hid hown; clear hown
  have HG := Lib.hid (((Below.refl w.heap.size w).alloc (Nat.le_refl _) _).grown hg (by simp) (by simp [Value.ownBlock])); clear hg
  go_wp2
  go_ret
  rw [HS.out]
  exact made_of (by rw [List.map_append]; exact HO.out) HG.out

def nine : List UInt8 := [49, 50, 51, 52, 53, 54, 55, 56, 57]
theorem nine_sum : ((Crc.sumOf nine : Nat) : Int) = 3421780262 := by decide +kernel
theorem nil_sum : ((Crc.sumOf [] : Nat) : Int) = 0 := by decide +kernel
theorem bytes_lit (w : World) (l : List UInt8) (e : TypeId) (fr : Nat × Nat) : Bytes (w.alloc (.cells (l.map bv).toArray e fr)) (some ⟨w.heap.size, 0, none⟩) l := fun _ =>
  ⟨w.heap.size, 0, rfl, by simp, fun j hj => by rw [Nat.zero_add, World.cell?_alloc_mark]; simp [List.getElem?_eq_getElem hj]⟩
theorem bytes_nine (w : World) (fr : Nat × Nat) :
    Bytes (w.alloc (.cells #[.int .u8 49, .int .u8 50, .int .u8 51, .int .u8 52, .int .u8 53, .int .u8 54, .int .u8 55, .int .u8 56, .int .u8 57] 5 fr)) (some ⟨w.heap.size, 0, none⟩) nine :=
  bytes_lit w nine 5 fr

/-- what a call leaves that hands back true and turns nothing that was there -/
def Yes (w : World) (e : Ending) (w' : World) : Prop := e = .returned (.bool true) ∧ Below w.heap.size w w'

set_option maxHeartbeats 400000 in
/-- the law's 'awake' -/
theorem awake_any (w : World) (hk : Known w) : Calls Tryd.prog 12 #[] w (Yes w) := by
  have HK := Lib.hid hk; clear hk
  have kc := fun (w : World) (C : Array Value) (n c : Nat) => Lib.run_convert_bytes_const (P := Tryd.prog) w 22 5 C n c Tryd.underlying22 Tryd.underlying5
  go_enter Tryd.func12, Tryd.ntmps12
  go_wp2_with fail
  refine (of_any _ _ _ nine _ (by decide) (by decide) (bytes_nine w _) (HK.out.below ((Below.refl _ _).alloc (Nat.le_refl _) _))).mono ?_
  rintro e w' ⟨rfl, rfl⟩
  rw [nine_sum]
  go_wp2_with fail
  refine (of_any _ _ _ [] _ rfl (by decide) (Bytes.none_ _ _) (HK.out.below ((Below.refl _ _).alloc (Nat.le_refl _) _))).mono ?_
  rintro e w' ⟨rfl, rfl⟩
  rw [nil_sum]
  go_wp2_with fail
  go_ret
  exact ⟨rfl, (Below.refl _ _).alloc (Nat.le_refl _) _⟩
end Go.Proofs.YtpdbbiokndhghaaDoor
