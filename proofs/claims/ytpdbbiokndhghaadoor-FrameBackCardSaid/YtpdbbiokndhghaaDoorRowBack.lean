/-
  FrameBack, its row and its card: for every input the law returns true, and each argument reads as it read. The row lists the table crc.known (tied by the card); no other condition.
-/
import Derived.Test.YtpdbbiokndhghaaDoorRowB
import Derived.Test.YtpdbbiokndhghaaDoorLawH
import Derived.Test.YtpdbbiokndhghaaDoorRowD
namespace Go.Proofs.YtpdbbiokndhghaaDoor.frameBack
open Go Go.RowKit Go.Proofs Go.ChangeShapes Go.WideShapes Go.ChangeAt

theorem lawContract (H : Type) (enc : TypeId × Value → H) (W : World) (base : Nat) (args : Array Value) (ds gs : List (DataW H)) (before : List MemPlace)
    (hval : ∀ (j : Nat) t v, Tryd.f11.params[j]? = some t → args[j]? = some v → Value.okWide Tryd.prog W .any base t v)
    (hW : DataW.Whole enc Tryd.prog Tryd.f11.params.toList Rows.frameBackSpec.vars false W args.toList ds gs before)
    (hz : (DataW.weightsEach Tryd.prog (Tryd.f11.params.toList ++ []) (ds ++ gs)).all (· ≤ reachBytes) = true)
    (hL : laidMetH Tryd.prog Rows.frameBackRow.laid W) :
    Calls Tryd.prog 11 args W fun e W' => ∃ v, e = .returned v ∧ Rows.frameBackSpec.post enc Tryd.prog Tryd.f11 false true false false W args v W' := by
  have hW' := hW
  obtain ⟨p, q, hA0, hV, rfl, hfz, hnd⟩ := hW
  have hA : DataW.TrodAll enc Tryd.prog W 0 (fun _ => true) true Tryd.f11.params.toList args.toList ds p := hA0
  rw [Tryd.params11] at hA hval
  rw [Tryd.params11] at hz
  obtain ⟨v0, vs0, d0, ds0, p0, q0, hargs, rfl, rfl, h0, r0⟩ := trodAll_cons hA
  obtain ⟨v1, vs1, d1, ds1, p1, q1, rfl, rfl, rfl, h1, r1⟩ := trodAll_cons r0
  obtain ⟨v2, vs2, d2, ds2, p2, q2, rfl, rfl, rfl, h2, r2⟩ := trodAll_cons r1
  obtain ⟨rfl, rfl, rfl⟩ := trodAll_nil r2
  obtain rfl : args = #[v0, v1, v2] := by cases args; simp_all
  obtain ⟨rfl, rfl⟩ := trodVars_none hV
  have hk : Known W := known_of hL
  obtain ⟨A1, n1, c1, ks, rfl, hn0, hnc0, hcm0, hB0, hd0⟩ := open_bytes Tryd.underlying22 Tryd.underlying5 cells5 (hval 0 22 v0 rfl rfl) h0
  have hs0 : n1 ≤ reachBytes := by
    rcases hd0 with ⟨_, e⟩ | ⟨el, sp, e, e2⟩
    · omega
    · have := sized_slice hz (j := 0) rfl (by rw [e]; rfl) Tryd.underlying22
      rw [bytes5, e2] at this
      omega
  unfold reachBytes at hs0
  obtain ⟨A2, n2, c2, vs, dl, rfl, hn1, hnc1, hR1, hS1, hd1⟩ := open_slices Tryd.underlying48 Tryd.underlying22 Tryd.underlying5 (by kernel_rfl) cells5 (hval 1 48 v1 rfl rfl) h1
  have hs1 : n2 ≤ reachBytes := by
    rcases hd1 with ⟨_, e⟩ | ⟨el, sp, e, e2, _⟩
    · omega
    · have := sized_slice hz (j := 1) rfl (by rw [e]; rfl) Tryd.underlying48
      rw [show Tryd.prog.bytesOf 22 = 24 by kernel_rfl, e2] at this
      omega
  have hs2 : ∀ l ∈ dl, l.length ≤ reachBytes := by
    intro l hl
    rcases hd1 with ⟨_, e⟩ | ⟨el, sp, e, e2, e3⟩
    · rw [e] at hn1
      rw [List.eq_nil_of_length_eq_zero hn1] at hl
      cases hl
    · rcases e3 l hl with h0 | ⟨el', sp', hm, hl'⟩
      · omega
      · have := weight_in hz (j := 1) rfl (by rw [e]; rfl) Tryd.underlying48 Tryd.underlying22 hm
        rw [bytes5, hl'] at this
        omega
  unfold reachBytes at hs1 hs2
  obtain ⟨k2, rfl, hk2, hkk2⟩ := open_i64 Tryd.underlying3 (hval 2 3 v2 rfl rfl) h2
  have walk := law_frameBack A1 A2 n1 c1 n2 c2 ks dl vs k2 W hn0 hn1 (by omega) (by omega) (fun l hl => Nat.le_trans (hs2 l hl) (by decide)) hk2 hkk2 hB0 hR1 hS1 hk
  refine walk.mono fun e W' ⟨he, hb⟩ => ?_
  exact ⟨_, he, law_post hW' rfl rfl rfl Tryd.underlying4 laidOut (by kernel_rfl) hb⟩

theorem laid_met (os : Os) : laidMet Tryd.prog Rows.frameBackRow.laid ((laidWorld os).forCall (fun _ _ => 0) ⟨#[], #[.slice none 0 0, .slice none 0 0, .int .i64 0], []⟩).memory :=
  laidMet_of_run' 20 (by kernel_rfl) (by kernel_rfl)
theorem reads (os : Os) {H : Type} (enc : TypeId × Value → H) : ∃ places, DataW.whole enc Tryd.prog ((laidWorld os).forCall (fun _ _ => 0) ⟨#[], #[.slice none 0 0, .slice none 0 0, .int .i64 0], []⟩).memory Tryd.f11.params.toList Rows.frameBackSpec.vars false (#[.slice none 0 0, .slice none 0 0, .int .i64 0] : Array Value).toList 8 = some ([.nil, .nil, .lit (.int .i64 0)], [], places) :=
  ⟨[], by kernel_rfl⟩

set_option maxRecDepth 100000 in
theorem lifted (os : Os) (started : os.Started) (H : Type) (enc : TypeId × Value → H) (F : Stop.Interp) :
    ReturnsInHanded {} Tryd.checked os 11 .any ((OpenSpec.ofChange Rows.frameBackSpec).preRow enc Tryd.prog Tryd.f11 Rows.frameBackRow.domain false Rows.frameBackRow.laid) (((OpenSpec.ofChange Rows.frameBackSpec).at F).post enc Tryd.prog Tryd.f11 false true false false) := by
  obtain ⟨places, hx⟩ := reads os enc
  refine returnsInHanded_of_row (C := Tryd.checked) (s := OpenSpec.ofChange Rows.frameBackSpec) own started (by kernel_rfl) Tryd.func11
    (witness_row_at (enc := enc) (C := Tryd.checked) false (laidWorld os) #[.slice none 0 0, .slice none 0 0, .int .i64 0] rfl (by kernel_rfl) (by kernel_rfl) (by kernel_rfl)
      (OpenSpec.preRow_of_cond 8 hx (by kernel_rfl) (fun k hk => by cases hk) (by kernel_rfl) (laid_met os))) ?_
  intro W base args ds gs before hval hW _ hc hz hL _ _
  exact lawContract H enc W base args ds gs before hval hW hz hL

theorem said : Rows.FrameBackSaid :=
  OpenClaim.holds_of_cond 11 Tryd.f11 rfl rfl rfl rfl rfl rfl rfl ⟨rfl, rfl, rfl, rfl, rfl⟩ rfl rfl rfl rfl rfl (by kernel_rfl) Tryd.func11 (by kernel_rfl)
    (of_decide_eq_true (by kernel_rfl)) (by unfold Func.isWrapper; first | (rw [if_pos (by decide +kernel)]; kernel_rfl) | (rw [if_neg (by decide +kernel)]; exact ⟨rfl, rfl⟩))
    (fun os started H enc _ F => by rw [OpenClaim.pre_eq_preRow]; exact lifted os started H enc F)

theorem plain (f : FuncId) (fn : Func) (hf : Tryd.pinned.checked.prog.funcNamed "gudgeon/gudgeonlaw04.FrameBack" = some f) (hfn : Tryd.pinned.checked.prog.funcs[f]? = some fn) :
    false = Tryd.pinned.checked.prog.looks [] ∧ ∀ (j : Nat) t, fn.params[j]? = some t → Tryd.pinned.checked.prog.wantsStandIn t = false := by
  obtain rfl : f = 11 := Option.some.inj ((show Tryd.prog.funcNamed "gudgeon/gudgeonlaw04.FrameBack" = some 11 by kernel_rfl).symm.trans hf) |>.symm
  obtain rfl : fn = Tryd.f11 := (Option.some.inj (Tryd.func11.symm.trans hfn)).symm
  refine ⟨by kernel_rfl, fun j t ht => ?_⟩
  rw [Tryd.params11] at ht
  have hm : t ∈ ([22, 48, 3] : List TypeId) := by
    have := Array.mem_of_getElem? ht
    simpa using this
  have all : ∀ t ∈ ([22, 48, 3] : List TypeId), Tryd.prog.wantsStandIn t = false := by
    intro t ht
    have h : (([22, 48, 3] : List TypeId).all fun t => !Tryd.prog.wantsStandIn t) = true := by kernel_rfl
    have := List.all_eq_true.1 h t ht
    simpa using this
  exact all t hm

theorem card : Rows.FrameBackCardSaid :=
  Claim7.holds_tied_plain_at .later [] _ _ _ _ said (fun _ h => by cases h) (by kernel_rfl) (fun _ h => by cases h) frameBack_row_tie rfl ⟨rfl, rfl⟩ (by kernel_rfl) rfl plain (by kernel_rfl)
end Go.Proofs.YtpdbbiokndhghaaDoor.frameBack
