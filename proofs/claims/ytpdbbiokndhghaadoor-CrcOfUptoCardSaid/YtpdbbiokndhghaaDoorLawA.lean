/-
  THE LAW CrcOf WALKED: at any two lists of bytes that lie in memory, in every world in which the table holds its numbers, the call returns true; together the lists are at most 2^47 bytes.
-/
import Derived.Test.YtpdbbiokndhghaaDoorConC
namespace Go.Proofs.YtpdbbiokndhghaaDoor
open Go Go.RowKit Go.Proofs

set_option maxHeartbeats 800000 in
theorem law_crcOf (A A' : Option Addr) (n c n' c' : Nat) (l l' : List UInt8) (w : World) (hn : l.length = n) (hn' : l'.length = n') (hl : n + n' ≤ 140737488355328) (hB : Bytes w A l) (hB' : Bytes w A' l') (hk : Known w) :
    Calls Tryd.prog 4 #[.slice A n c, .slice A' n' c'] w (Yes w) := by
  have HN := Lib.hid hn; clear hn
  have HN' := Lib.hid hn'; clear hn'
  have HK := Lib.hid hk; clear hk
  have HC := Lib.hid hB; clear hB
  have HD := Lib.hid hB'; clear hB'
  obtain ⟨i0, hi, hz0, hz1, hz2⟩ := info_parts info5
  go_enter Tryd.func4, Tryd.ntmps4
  go_wp2_with fail
  refine (refOf_any _ _ _ l _ HN.out (by omega) HC.out).mono ?_
  rintro e w' ⟨rfl, rfl⟩
  go_wp2_with fail
  refine (refOf_any _ _ _ l' _ HN'.out (by omega) HD.out).mono ?_
  rintro e w' ⟨rfl, rfl⟩
  go_wp2_with (at_builtin; refine wpList_append_bytes _ rfl _ _ 22 rfl w.heap.size 5 i0 (.int .u8 0) Tryd.underlying22 hi hz0 hz1 hz2 rfl _ 0 [] rfl (own_lit _ [] 5 _ (Nat.le_refl _) (by decide)) _ _ _ l rfl HN.out (HC.out.alloc _) (by omega) (by simp) ?_)
  intro v1 w1 hown hg
  have HO := Lib.hid hown; clear hown
  have HG := Lib.hid (((Below.refl w.heap.size w).alloc (Nat.le_refl _) _).grown hg (by simp) (by simp [Value.ownBlock])); clear hg
  go_wp2_with (at_builtin; refine wpList_append_bytes _ rfl _ _ 22 rfl w.heap.size 5 i0 (.int .u8 0) Tryd.underlying22 hi hz0 hz1 hz2 rfl _ _ _ rfl HO.out _ _ _ l' rfl HN'.out (HD.out.below HG.out) (by omega) HG.out.size ?_)
  intro v2 w2 hown2 hg2
  have HG2 := Lib.hid (HG.out.grown hg2 HG.out.size (fun k hk => (HO.out.lt k hk).1))
  obtain ⟨A2, c2, rfl, hm, h1, h2, hB2⟩ := bytes_of_own (l := l ++ l') (by rw [List.map_append]; exact hown2)
  clear hown2 hg2
  have HM := Lib.hid hm; clear hm
  have HB2 := Lib.hid hB2; clear hB2
  have HS := Lib.hid (Crc.step_sum l l')
  have hs1 := Crc.sumOf_lt l
  go_wp2_with fail
  refine (of_any _ _ _ l _ HN.out (by omega) (HC.out.below HG2.out) (HK.out.below HG2.out)).mono ?_
  rintro e w' ⟨rfl, rfl⟩
  go_wp2_with fail
  refine (of_any _ _ _ l _ HN.out (by omega) (HC.out.below HG2.out) (HK.out.below HG2.out)).mono ?_
  rintro e w' ⟨rfl, rfl⟩
  go_wp2_with fail
  refine (step_any _ (Crc.sumOf l) _ _ _ l' _ rfl hs1 HN'.out (by omega) (HD.out.below HG2.out) (HK.out.below HG2.out)).mono ?_
  rintro e w' ⟨rfl, rfl⟩
  rw [HS.out]
  go_wp2_with fail
  refine (refOf_any _ _ _ (l ++ l') _ HM.out (by omega) HB2.out).mono ?_
  rintro e w' ⟨rfl, rfl⟩
  go_wp2_with fail
  refine (same_any _ _ _ _ _ _ l l' _ HN.out (by omega) HN'.out (by omega) (HC.out.below HG2.out) (HD.out.below HG2.out) (HK.out.below HG2.out)).mono ?_
  rintro e w' ⟨rfl, rfl⟩
  go_wp2_with fail
  refine (awake_any _ (HK.out.below HG2.out)).mono ?_
  rintro e w' ⟨rfl, hb⟩
  have HB := Lib.hid hb; clear hb
  go_wp2_with fail
  go_ret
  exact ⟨rfl, HG2.out.trans (HB.out.mono HG2.out.size)⟩
end Go.Proofs.YtpdbbiokndhghaaDoor
