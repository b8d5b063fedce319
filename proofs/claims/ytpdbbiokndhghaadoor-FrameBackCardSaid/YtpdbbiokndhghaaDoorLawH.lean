/-
  THE LAW FrameBack WALKED.
-/
import Derived.Test.YtpdbbiokndhghaaDoorFrmS
import Derived.Test.YtpdbbiokndhghaaDoorLawG
namespace Go.Proofs.YtpdbbiokndhghaaDoor
open Go Go.RowKit Go.Proofs

def sumL : List (List UInt8) → Nat
  | [] => 0
  | d :: ds => d.length + sumL ds
theorem sumL_snoc (ds : List (List UInt8)) (d : List UInt8) : sumL (ds ++ [d]) = sumL ds + d.length := by
  induction ds with
  | nil => simp [sumL]
  | cons x r ih => simp only [List.cons_append, sumL, ih]; omega
theorem sumL_take (ds : List (List UInt8)) (k : Nat) (h : k < ds.length) : sumL (ds.take (k + 1)) = sumL (ds.take k) + ds[k].length := by
  rw [List.take_succ_eq_append_getElem h, sumL_snoc]
theorem sumL_mem (ds : List (List UInt8)) : ∀ d ∈ ds, d.length ≤ sumL ds := by
  induction ds with
  | nil => simp
  | cons x r ih =>
    intro d hd
    simp only [sumL]
    rcases List.mem_cons.1 hd with h | h
    · rw [h]; omega
    · have := ih d h; omega
theorem join_sum : ∀ (ks : List UInt8) (ds : List (List UInt8)), (∀ d ∈ ds, d.length ≤ 1048571) → (Frm.joinS (ks.zip ds)).length ≤ sumL ds + 15 * ds.length
  | [], ds, _ => by simp [Frm.joinS]
  | _ :: _, [], _ => by simp [Frm.joinS]
  | k :: ks, d :: ds, h => by
    have ih := join_sum ks ds (fun x hx => h x (by simp [hx]))
    have hf := frame_len k d
    have hd := h d (by simp)
    have hu := uv_len10 (d.length + 5) (by omega)
    simp only [List.zip_cons_cons, Frm.joinS, List.length_append, sumL, List.length_cons]
    omega

theorem Row.take {w : World} {A : Option Addr} {xs : List Value} (h : Row w A xs) (k : Nat) : Row w A (xs.take k) := fun hl => by
  rw [List.length_take] at hl
  obtain ⟨b, off, e, hb, hc⟩ := h (by omega)
  refine ⟨b, off, e, hb, fun j u hj => hc j u ?_⟩
  rw [List.getElem?_take] at hj
  split at hj
  · exact hj
  · cases hj

theorem wp_append_at {P : Program} {w : World} {o : Oper} {a : Act} {K : Act → World → Prop} {Q : Exit → Act → World → Prop} (s x : Operand) (t : TypeId)
    (ho : o.op = .call { callee := .builtin .append, args := #[s, x], argTypes := #[t, t] })
    (base : Nat) (e : TypeId) (i : TypeInfo) (z : Value) (size bytes : Nat) (ht : P.underlying t = some (.slice e)) (hi : P.info? e = some i) (hz : i.zero = some z)
    (hsize : i.size = size) (hby : i.bytes = bytes) (hzs : z.cells.size = size) (hsz : 0 < size)
    (v : Value) (n : Nat) (xs : List Value) (hs : a.eval s = v) (hown : w.ownsRow base e size v n xs)
    (ad : Addr) (m c : Nat) (news : List Value) (hx : a.eval x = .slice (some ad) m c) (hl : news.length = m * size) (hnews : ∀ j u, news[j]? = some u → w.cell? (ad.add j) = some u) (h1 : ∀ u ∈ news, u.oneCell' = true)
    (h63 : n + m ≤ maxLen) (hbytes : (n + m) * bytes ≤ 140737488355328) (hbase : base ≤ w.heap.size)
    (h : ∀ v' w', w'.ownsRow base e size v' (n + m) (xs ++ news) → w.grownBy w' v.ownBlock → (v'.ownBlock = v.ownBlock ∨ v'.ownBlock = some w.heap.size) → K (a.put o.dst v') w') : o.wp P a w K Q := by
  obtain ⟨v', w', hr, h2, h3, _, h5⟩ := run_append_own_at (P := P) w base t o.type e i z size bytes ht hi hz hsize hby hzs hsz v n xs hown ad m c news hl hnews h1 h63 hbytes hbase
  unfold Oper.wp execOp
  simp only [ho, resolve, invoke, builtin, Sem.run_bind, Sem.run_pure, Result.andThen_ok, List.map_toArray, List.map_cons, List.map_nil, hs, hx, hr]
  exact h v' w' h2 h3 h5

set_option maxRecDepth 8000 in
set_option maxHeartbeats 3200000 in
theorem law_frameBack_out (A1 A2 : Option Addr) (n1 c1 n2 c2 : Nat) (ks : List UInt8) (ds : List (List UInt8)) (vs : List Value) (cut : Int) (w : World)
    (h1 : ks.length = n1) (h2 : ds.length = n2) (_hl1 : n1 ≤ 140737488355328) (hl2 : n2 ≤ 140737488355328) (hds : ∀ d ∈ ds, d.length ≤ 140737488355328) (hcut1 : -9223372036854775808 ≤ cut) (hcut2 : cut ≤ 9223372036854775807)
    (hcond : 200 < n2 ∨ 5000 < sumL ds)
    (hB1 : Bytes w A1 ks) (hR2 : Row w A2 vs) (hS2 : Sls w (fun b => b < w.heap.size) vs ds) (hk : Known w) :
    Calls Tryd.prog 11 #[.slice A1 n1 c1, .slice A2 n2 c2, .int .i64 cut] w (Yes w) := by
  have HB1 := Lib.hid hB1; clear hB1
  have HR2 := Lib.hid hR2; clear hR2
  have HS2 := Lib.hid hS2; clear hS2
  have HK := Lib.hid hk; clear hk
  have HDS := Lib.hid hds; clear hds
  have HC1 := Lib.hid hcut1; clear hcut1
  have HC2 := Lib.hid hcut2; clear hcut2
  have L1 := Lib.hid h1; clear h1
  have L2 := Lib.hid h2; clear h2
  have HCOND := Lib.hid hcond; clear hcond
  obtain ⟨i1, hj, hy0, hy1, hy2⟩ := info_parts info44
  go_enter Tryd.func11, Tryd.ntmps11
  go_wp2_with fail
  go_loop [7, 8] (fun y x => ∃ k : Nat, x = .int .i64 k ∧ k ≤ n2 ∧ k ≤ 1000 ∧ y = .int .i64 ((sumL (ds.take k) : Nat) : Int) ∧ sumL (ds.take k) ≤ k * 140737488355328) (fun _ x => n2 - (intOf x).toNat)
  case atStart => exact ⟨0, rfl, Nat.zero_le _, by omega, rfl, by simp [sumL]⟩
  case round =>
    obtain ⟨k, rfl, hk, hk1000, rfl, hsum⟩ := hrel
    by_cases hlt : k < n2 ∧ k < 1000
    · obtain ⟨hlt1, hlt2⟩ := hlt
      have kl2 : k < ds.length := by rw [L2.out]; exact hlt1
      obtain ⟨B2, d2, hv2, hd2, _⟩ := HS2.out.at_ k kl2
      obtain ⟨b2, o2, rfl, hb2, hc2⟩ := HR2.out (by rw [HS2.out.length]; omega)
      have q2 := hc2 k _ hv2
      clear hc2 hv2
      have hdl := HDS.out ds[k] (List.getElem_mem kl2)
      have HST := Lib.hid (sumL_take ds k kl2)
      generalize ds[k] = d at *
      have HY : Hid (sumL (ds.take (k + 1)) = sumL (ds.take k) + d.length) := HST.out
      clear HST
      generalize sumL (ds.take k) = y at *
      generalize d.length = dl at *
      go_wp2_with fail
      go_round
      case rel => exact ⟨k + 1, by go_num, by omega, by omega, by rw [HY.out]; go_num, by rw [HY.out]; omega⟩
      case measure => simp [intOf]; omega
    · have hend : k = n2 ∨ k = 1000 := by omega
      have HAW := Lib.hid (awake04_any w HK.out)
      have hbig : 200 < n2 ∨ 5000 < sumL (ds.take k) := by
        rcases HCOND.out with h | h
        · exact .inl h
        · rcases Nat.lt_or_ge 200 n2 with h2 | h2
          · exact .inl h2
          · have hkn : k = n2 := by omega
            right
            rw [hkn, List.take_of_length_le (by rw [L2.out]; omega)]
            exact h
      generalize sumL (ds.take k) = y at *
      have hlt' : ¬ (k < n2) ∨ ¬ (k < 1000) := by omega
      clear hlt
      rcases hlt' with hlt' | hlt'
      · by_cases h5 : 5000 < y
        · go_wp2_with fail
          refine HAW.out.mono ?_
          rintro e w2 ⟨rfl, hb⟩
          have HB := Lib.hid hb; clear hb
          go_wp2_with fail
          go_ret
          exact ⟨rfl, HB.out⟩
        · have h200 : 200 < n2 := by omega
          go_wp2_with fail
          refine HAW.out.mono ?_
          rintro e w2 ⟨rfl, hb⟩
          have HB := Lib.hid hb; clear hb
          go_wp2_with fail
          go_ret
          exact ⟨rfl, HB.out⟩
      · have h200 : 200 < n2 := by omega
        by_cases hkn : k < n2
        · by_cases h5 : 5000 < y
          · go_wp2_with fail
            refine HAW.out.mono ?_
            rintro e w2 ⟨rfl, hb⟩
            have HB := Lib.hid hb; clear hb
            go_wp2_with fail
            go_ret
            exact ⟨rfl, HB.out⟩
          · go_wp2_with fail
            refine HAW.out.mono ?_
            rintro e w2 ⟨rfl, hb⟩
            have HB := Lib.hid hb; clear hb
            go_wp2_with fail
            go_ret
            exact ⟨rfl, HB.out⟩
        · by_cases h5 : 5000 < y
          · go_wp2_with fail
            refine HAW.out.mono ?_
            rintro e w2 ⟨rfl, hb⟩
            have HB := Lib.hid hb; clear hb
            go_wp2_with fail
            go_ret
            exact ⟨rfl, HB.out⟩
          · go_wp2_with fail
            refine HAW.out.mono ?_
            rintro e w2 ⟨rfl, hb⟩
            have HB := Lib.hid hb; clear hb
            go_wp2_with fail
            go_ret
            exact ⟨rfl, HB.out⟩

set_option maxRecDepth 8000 in
set_option maxHeartbeats 3200000 in
theorem law_frameBack_in (A1 A2 : Option Addr) (n1 c1 n2 c2 : Nat) (ks : List UInt8) (ds : List (List UInt8)) (vs : List Value) (cut : Int) (w : World)
    (h1 : ks.length = n1) (h2 : ds.length = n2) (hl1 : n1 ≤ 140737488355328) (hl2 : n2 ≤ 140737488355328) (hds : ∀ d ∈ ds, d.length ≤ 140737488355328) (hcut1 : -9223372036854775808 ≤ cut) (hcut2 : cut ≤ 9223372036854775807)
    (hcond : n2 ≤ 200 ∧ sumL ds ≤ 5000)
    (hB1 : Bytes w A1 ks) (hR2 : Row w A2 vs) (hS2 : Sls w (fun b => b < w.heap.size) vs ds) (hk : Known w) :
    Calls Tryd.prog 11 #[.slice A1 n1 c1, .slice A2 n2 c2, .int .i64 cut] w (Yes w) := by
  have HB1 := Lib.hid hB1; clear hB1
  have HR2 := Lib.hid hR2; clear hR2
  have HS2 := Lib.hid hS2; clear hS2
  have HK := Lib.hid hk; clear hk
  have HDS := Lib.hid hds; clear hds
  have HC1 := Lib.hid hcut1; clear hcut1
  have HC2 := Lib.hid hcut2; clear hcut2
  have L1 := Lib.hid h1; clear h1
  have L2 := Lib.hid h2; clear h2
  have HCOND := Lib.hid hcond; clear hcond
  obtain ⟨i1, hj, hy0, hy1, hy2⟩ := info_parts info44
  go_enter Tryd.func11, Tryd.ntmps11
  go_wp2_with fail
  go_loop [7, 8] (fun y x => ∃ k : Nat, x = .int .i64 k ∧ k ≤ n2 ∧ k ≤ 1000 ∧ y = .int .i64 ((sumL (ds.take k) : Nat) : Int) ∧ sumL (ds.take k) ≤ k * 140737488355328) (fun _ x => n2 - (intOf x).toNat)
  case atStart => exact ⟨0, rfl, Nat.zero_le _, by omega, rfl, by simp [sumL]⟩
  case round =>
    obtain ⟨k, rfl, hk, hk1000, rfl, hsum⟩ := hrel
    by_cases hlt : k < n2 ∧ k < 1000
    · obtain ⟨hlt1, hlt2⟩ := hlt
      have kl2 : k < ds.length := by rw [L2.out]; exact hlt1
      obtain ⟨B2, d2, hv2, hd2, _⟩ := HS2.out.at_ k kl2
      obtain ⟨b2, o2, rfl, hb2, hc2⟩ := HR2.out (by rw [HS2.out.length]; omega)
      have q2 := hc2 k _ hv2
      clear hc2 hv2
      have hdl := HDS.out ds[k] (List.getElem_mem kl2)
      have HST := Lib.hid (sumL_take ds k kl2)
      generalize ds[k] = d at *
      have HY : Hid (sumL (ds.take (k + 1)) = sumL (ds.take k) + d.length) := HST.out
      clear HST
      generalize sumL (ds.take k) = y at *
      generalize d.length = dl at *
      go_wp2_with fail
      go_round
      case rel => exact ⟨k + 1, by go_num, by omega, by omega, by rw [HY.out]; go_num, by rw [HY.out]; omega⟩
      case measure => simp [intOf]; omega
    · obtain ⟨hn2, hsumT⟩ := HCOND.out
      have hkn : k = n2 := by omega
      have HY : Hid (sumL (ds.take k) = sumL ds) := by show _ = _; rw [hkn, List.take_of_length_le (by rw [L2.out]; omega)]
      have hy : sumL (ds.take k) ≤ 5000 := by rw [HY.out]; exact hsumT
      have hd5 : ∀ d ∈ ds, d.length ≤ 1048571 := fun d hd => by have := sumL_mem ds d hd; omega
      have hjs := join_sum ks ds hd5
      have HJS : Hid ((Frm.joinS (ks.zip ds)).length ≤ 8000) := by show _ ≤ _; have := L2.out; omega
      have HD5 := Lib.hid hd5
      clear hjs hd5 HY HCOND
      subst hkn
      have hlt' : ¬ (k < k) := by omega
      clear hlt hsumT
      generalize sumL (ds.take k) = y at *
      go_wp2_with fail
      have HSB := Lib.hid HS2.out
      go_loopw [9, 10] (fun v x wr => ∃ j : Nat, x = .int .i64 j ∧ j ≤ n1 ∧ j ≤ k ∧ wr.ownsRow w.heap.size 44 2 v j (flat (ks.take j) (vs.take j)) ∧ Below w.heap.size w wr) (fun _ x _ => n1 - (intOf x).toNat)
      case atStart => exact ⟨0, rfl, Nat.zero_le _, Nat.zero_le _, own_empty2 w 44 _ _ rfl (Nat.le_refl _), (Below.refl _ _).alloc (Nat.le_refl _) _⟩
      case round =>
        obtain ⟨j, rfl, hj1, hj2, ho, hb⟩ := hrel
        have HO := Lib.hid ho; clear ho
        have HB := Lib.hid hb; clear hb
        by_cases hlt2 : j < n1 ∧ j < k
        · obtain ⟨hj3, hj4⟩ := hlt2
          have kl1 : j < ks.length := by rw [L1.out]; exact hj3
          have kl2 : j < ds.length := by rw [L2.out]; exact hj4
          have kl3 : j < vs.length := by rw [HS2.out.length]; exact kl2
          obtain ⟨b1, o1, rfl, hb1, hc1⟩ := HB1.out.at_ kl1
          obtain ⟨B2, d2, hv2, hd2, hbt⟩ := HS2.out.at_ j kl2
          clear hbt
          obtain ⟨b2, o2, rfl, hb2, hc2⟩ := HR2.out (by omega)
          have q2 := hc2 j _ hv2
          clear hc2
          unfold bv at hc1
          have hfl : (ks.take j).length = (vs.take j).length := by simp; omega
          have HFT : Hid (flat (ks.take (j + 1)) (vs.take (j + 1)) = flat (ks.take j) (vs.take j) ++ [bv ks[j], .slice B2 ds[j].length d2]) := by
            show _ = _
            have hvj : vs[j] = .slice B2 ds[j].length d2 := by
              rw [List.getElem?_eq_getElem kl3] at hv2; injection hv2
            rw [List.take_succ_eq_append_getElem kl1, List.take_succ_eq_append_getElem kl3, flat_snoc _ _ _ _ hfl, hvj]
          clear hv2 hfl
          have hu1 := Crc.toNat_lt ks[j]
          have hki0 : (0 : Int) ≤ j := by omega
          have hki1 : (j : Int) < n1 := by omega
          have hki2 : (j : Int) < k := by omega
          clear kl3
          obtain ⟨kd, hkd⟩ : ∃ kd, ks[j] = kd := ⟨_, rfl⟩
          obtain ⟨dl, hdl⟩ : ∃ dl, ds[j].length = dl := ⟨_, rfl⟩
          rw [hkd] at HFT hc1 hu1
          rw [hdl] at HFT q2
          clear hkd hdl hd2 kl1 kl2
          go_wp2_with fail
          refine wp_region_flow [(0, true), (1, true), (2, true), (3, true), (4, true), (5, true), (6, true), (7, true), (8, true), (9, true), (10, false), (11, false), (12, true)] (fun u => Below w.heap.size w u) (by kernel_rfl) (by kernel_rfl) (fun _ _ _ _ _ h => h) (HB.out.drew) ?_
          iterate 10 (refine flow_take (v := ?_) rfl (by rfl) ?_ ?_; rotate_left 1; (· intro u hu; have c1' := (hu.cell hb1).trans hc1; have c2' := (hu.cell hb2).trans q2; clear hu; go_simp; try with_reducible rfl); simp only [Act.put, List.getElem_toArray, List.getElem_cons_succ, List.getElem_cons_zero, List.setIfInBounds_toArray, List.set_cons_zero, List.set_cons_succ])
          (refine flow_turn rfl (by rfl) (fun K hK => ?_); simp only [List.getElem_toArray, List.getElem_cons_succ, List.getElem_cons_zero]; have HKK := Lib.hid hK; clear hK; go_simp)
          have HB5 : Hid (Below w.heap.size w (wr.alloc (Obj.cells #[Value.int IntKind.u8 ((kd.toNat : Nat) : Int), Value.slice B2 dl d2] 44)).drew) := (HB.out.alloc HB.out.size _).drew
          have HO5 : Hid ((wr.alloc (Obj.cells #[Value.int IntKind.u8 ((kd.toNat : Nat) : Int), Value.slice B2 dl d2] 44)).drew.ownsRow w.heap.size 44 2 u9 j (flat (ks.take j) (vs.take j))) := HO.out.alloc _
          have HCN : Hid (∀ i u, [bv kd, Value.slice B2 dl d2][i]? = some u → (wr.alloc (Obj.cells #[Value.int IntKind.u8 ((kd.toNat : Nat) : Int), Value.slice B2 dl d2] 44)).drew.cell? ((⟨wr.heap.size, 0, none⟩ : Addr).add i) = some u) := cell_two_new wr _ _ 44 _ rfl
          refine HKK.out _ _ ⟨fun u => Below w.heap.size w u, HB5.out, fun u hu => hu, ?_⟩
          clear HKK K
          generalize (wr.alloc (Obj.cells #[Value.int IntKind.u8 ((kd.toNat : Nat) : Int), Value.slice B2 dl d2] 44)).drew = w5 at *
          refine flow_turn rfl (by rfl) (fun K hK => ?_)
          simp only [List.getElem_toArray, List.getElem_cons_succ, List.getElem_cons_zero]
          have HKK := Lib.hid hK; clear hK
          refine wp_append_at _ _ 51 rfl w.heap.size 44 i1 (.agg #[.int .u8 0, .slice none 0 0]) 2 32 Tryd.underlying51 hj hy0 hy1 hy2 rfl (by omega) _ j _ rfl HO5.out ⟨wr.heap.size, 0, none⟩ 1 1 [bv kd, .slice B2 dl d2] rfl rfl HCN.out (pair_oneCell _ _ _ _) (by unfold maxLen; omega) (by omega) HB5.out.size ?_
          intro v' w6 hown6 hg6 _
          have HO6 := Lib.hid hown6; clear hown6
          have HB6 := Lib.hid (HB5.out.grown hg6 HB5.out.size (fun k hk => (HO5.out.lt k hk).1)); clear hg6
          refine HKK.out _ _ ⟨fun u => Below w.heap.size w u, HB6.out, fun u hu => hu, ?_⟩
          clear HKK K HCN
          simp only [Act.put, List.setIfInBounds_toArray, List.set_cons_zero, List.set_cons_succ]
          iterate 1 (refine flow_take (v := ?_) rfl (by rfl) ?_ ?_; rotate_left 1; (· intro u hu; skip; clear hu; go_simp; try with_reducible rfl); simp only [Act.put, List.getElem_toArray, List.getElem_cons_succ, List.getElem_cons_zero, List.setIfInBounds_toArray, List.set_cons_zero, List.set_cons_succ])
          refine flow_nil ?_
          clear hc1 q2
          go_wp2_with fail
          go_roundw
          case rel => exact ⟨j + 1, by go_num, by omega, by omega, by rw [HFT.out]; exact HO6.out, HB6.out⟩
          case measure => simp [intOf]; omega
        · have hjm : j = min n1 k := by omega
          have hzl : (ks.zip ds).length = j := by rw [List.length_zip, L1.out, L2.out, hjm]
          have hz : ks.zip ds = (ks.take j).zip (ds.take j) := by rw [List.zip_eq_zip_take_min, L1.out, L2.out, ← hjm]
          have hlt1 : (ks.take j).length = j := by rw [List.length_take, L1.out]; omega
          have hlt2' : (ds.take j).length = j := by rw [List.length_take, L2.out]; omega
          have HM1 : Hid ((ks.zip ds).map Prod.fst = ks.take j) := by show _ = _; rw [hz, List.map_fst_zip (by omega)]
          have HM2 : Hid ((ks.zip ds).map Prod.snd = ds.take j) := by show _ = _; rw [hz, List.map_snd_zip (by omega)]
          have HZL := Lib.hid hzl
          have HT1 := Lib.hid hlt1
          have HT2 := Lib.hid hlt2'
          have HDZ : Hid (∀ x ∈ ks.zip ds, x.2.length ≤ 1048571) := fun x hx => HD5.out x.2 (List.of_mem_zip hx).2
          have HJN := Lib.hid (fun (wr : World) (hb : Below w.heap.size w wr) => join_any A1 A2 n1 c1 k c2 ks ds vs (fun b => b < w.heap.size) wr L1.out L2.out hl1 hl2 (by have := HJS.out; omega) HD5.out (HB1.out.below hb) (HR2.out.below hb) (HS2.out.below hb) (HK.out.below hb))
          have HSL := Lib.hid (fun (u : World) (hu : Below w.heap.size w u) => (HS2.out.below (w' := u) hu).take j)
          have HVL : Hid ((vs.take j).length = j) := by show _ = _; rw [List.length_take, HS2.out.length, L2.out]; omega
          obtain ⟨A4, c4, rfl, hc4, hm4⟩ := own_slice HO.out
          have HR4 : Hid (Row wr A4 (flat (ks.take j) (vs.take j))) := row_of_own HO.out
          have HCUT := Lib.hid (Frm.join_cut (ks.zip ds) HDZ.out)
          have HALL := Lib.hid (Frm.join_all (ks.zip ds) HDZ.out)
          clear hzl hz hlt1 hlt2' hjm HO HDZ HD5 HDS
          generalize ks.zip ds = its at *
          generalize Frm.joinS its = J at *
          have hjj : j ≤ 200 := by omega
          have hcase : ¬ j < n1 ∨ ¬ j < k := by omega
          clear hlt2
          rcases hcase with hcase | hcase
          · clear HSB
            go_wp2_with fail
            refine (HJN.out _ HB.out).mono ?_
            rintro e w1 ⟨A5, n5, c5, rfl, hn5, hc5, hm5, hB5, hb5⟩
            have hn5u : n5 ≤ 8000 := by rw [← hn5]; exact HJS.out
            have HN5 := Lib.hid hn5; clear hn5
            have HB5 := Lib.hid hB5; clear hB5
            have HW1 := Lib.hid (HB.out.trans (hb5.mono HB.out.size))
            have HR4a := Lib.hid (HR4.out.below hb5)
            clear hb5
            go_wp2_with fail
            refine (all_any A5 n5 c5 J _ HN5.out (by omega) hc5 HB5.out (HK.out.below HW1.out)).mono ?_
            rw [HALL.out]
            rintro e w2 ⟨v1, v2, rfl, vs2, o1, o2, hS, hb2⟩
            have hil : its.length = j := HZL.out
            have o1' : w2.ownsRow w1.heap.size 5 1 v1 its.length ((its.map Prod.fst).map bv) := o1
            have o2' : w2.ownsRow w1.heap.size 22 1 v2 its.length vs2 := o2
            rw [hil] at o1' o2'
            clear o1 o2 hil
            obtain ⟨A6, c6, rfl, hc6, hm6⟩ := own_slice o1'
            obtain ⟨A7, c7, rfl, hc7, hm7⟩ := own_slice o2'
            have HB6 : Hid (Bytes w2 A6 (its.map Prod.fst)) := by
              obtain ⟨A', c', h, _, _, _, hB⟩ := bytes_of_own o1'
              injection h with h _ _
              subst h
              exact hB
            have HR7 : Hid (Row w2 A7 vs2) := row_of_own o2'
            have HS7 := Lib.hid hS
            clear o1' o2' hS
            have HW2 := Lib.hid (HW1.out.trans (hb2.mono HW1.out.size))
            have HR4b := Lib.hid (HR4a.out.below hb2)
            have HB5b := Lib.hid (HB5.out.below hb2)
            clear hb2
            have HSAME := Lib.hid (same_slices A6 A7 A4 j c6 j c7 j c4 (its.map Prod.fst) (ks.take j) (its.map Prod.snd) (ds.take j) vs2 (vs.take j) _ _ w2 (by rw [List.length_map]; exact HZL.out) (by rw [List.length_map]; exact HZL.out) HT1.out HT2.out (by omega) (by omega) (by omega) HB6.out HR7.out HS7.out HR4b.out (HSL.out w2 HW2.out))
            have hse : (its.map Prod.fst == ks.take j && its.map Prod.snd == ds.take j) = true := by rw [HM1.out, HM2.out]; simp
            rw [hse] at HSAME
            clear hse
            rw [HN5.out]
            go_wp2_with fail
            refine HSAME.out.mono ?_
            rintro e w3 ⟨rfl, hb3⟩
            have HW3 := Lib.hid (HW2.out.trans (hb3.mono HW2.out.size))
            have HR4c := Lib.hid (HR4b.out.below hb3)
            have HB5c := Lib.hid (HB5b.out.below hb3)
            clear hb3 HSAME HB6 HR7 HS7
            by_cases hneg : cut < 0
            · go_wp2_with fail
              refine (awake04_any _ (HK.out.below HW3.out)).mono ?_
              rintro e w4 ⟨rfl, hb⟩
              have HB4 := Lib.hid (HW3.out.trans (hb.mono HW3.out.size)); clear hb
              go_wp2_with fail
              go_ret
              exact ⟨rfl, HB4.out⟩
            · obtain ⟨q, hq⟩ := Int.eq_ofNat_of_zero_le (show 0 ≤ cut by omega)
              have hq' : cut = (q : Int) := hq
              subst hq'
              clear hq hneg
              have hc2 := HC2.out
              have HQ := Lib.hid hc2; clear hc2
              by_cases hbig : n5 < q
              · go_wp2_with fail
                refine (awake04_any _ (HK.out.below HW3.out)).mono ?_
                rintro e w4 ⟨rfl, hb⟩
                have HB4 := Lib.hid (HW3.out.trans (hb.mono HW3.out.size)); clear hb
                go_wp2_with fail
                go_ret
                exact ⟨rfl, HB4.out⟩
              · have hqn : q ≤ n5 := by omega
                obtain ⟨⟨m, hm, he1⟩, he2, he3, he4⟩ := HCUT.out q (by rw [HN5.out]; exact hqn)
                obtain ⟨⟨its2, nn, er⟩, hr⟩ : ∃ r, Frm.allS (J.take q) = r := ⟨_, rfl⟩
                rw [hr] at he1 he2 he3 he4
                have he1' : its2 = its.take m := he1
                have he2' : nn ≤ q := he2
                have he3' : er = 0 ↔ nn = q := he3
                have he4' : er = 0 ∨ er = 12 := he4
                clear he1 he2 he3 he4
                have hmj : m ≤ j := by have := HZL.out; omega
                have hi2 : its2.length = m := by rw [he1', List.length_take]; omega
                have HI2 := Lib.hid hi2; clear hi2
                have HE1 := Lib.hid he1'; clear he1' hm
                go_wp2_with fail
                refine (all_any A5 q c5 (J.take q) _ (by rw [List.length_take, HN5.out]; omega) (by omega) (by omega) (HB5c.out.take q) (HK.out.below HW3.out)).mono ?_
                rw [hr]
                clear hr
                rintro e w4 ⟨v1, v2, rfl, vs3, o1, o2, hS, hb4⟩
                have o1' : w4.ownsRow w3.heap.size 5 1 v1 its2.length ((its2.map Prod.fst).map bv) := o1
                have o2' : w4.ownsRow w3.heap.size 22 1 v2 its2.length vs3 := o2
                rw [HI2.out] at o1' o2'
                clear o1 o2
                obtain ⟨A8, c8, rfl, hc8, hm8⟩ := own_slice o1'
                obtain ⟨A9, c9, rfl, hc9, hm9⟩ := own_slice o2'
                have HB8 : Hid (Bytes w4 A8 (its2.map Prod.fst)) := by
                  obtain ⟨A', c', h, _, _, _, hB⟩ := bytes_of_own o1'
                  injection h with h _ _
                  subst h
                  exact hB
                have HR9 : Hid (Row w4 A9 vs3) := row_of_own o2'
                have HS9 := Lib.hid hS
                clear o1' o2' hS
                have HW4 := Lib.hid (HW3.out.trans (hb4.mono HW3.out.size))
                have HR4d := Lib.hid (HR4c.out.below hb4)
                clear hb4
                have hrow : Row w4 A4 (flat ((ks.take j).take m) ((vs.take j).take m)) := by
                  have := HR4d.out.take (2 * m)
                  rwa [flat_take] at this
                have HSAME := Lib.hid (same_slices A8 A9 A4 m c8 m c9 m c4 (its2.map Prod.fst) ((ks.take j).take m) (its2.map Prod.snd) ((ds.take j).take m) vs3 ((vs.take j).take m) _ _ w4 (by rw [List.length_map]; exact HI2.out) (by rw [List.length_map]; exact HI2.out) (by rw [List.length_take, HT1.out]; omega) (by rw [List.length_take, HT2.out]; omega) (by omega) (by omega) (by omega) HB8.out HR9.out HS9.out hrow ((HSL.out w4 HW4.out).take m))
                have hse : (its2.map Prod.fst == (ks.take j).take m && its2.map Prod.snd == (ds.take j).take m) = true := by
                  rw [HE1.out, List.map_take, List.map_take, HM1.out, HM2.out]; simp
                rw [hse] at HSAME
                clear hse hrow
                go_wp2_with fail
                refine HSAME.out.mono ?_
                rintro e w5 ⟨rfl, hb5⟩
                have HW5 := Lib.hid (HW4.out.trans (hb5.mono HW4.out.size)); clear hb5 HSAME
                have HAW := Lib.hid (awake04_any w5 (HK.out.below HW5.out))
                rcases he4' with rfl | rfl
                · have hnq : nn = q := he3'.1 rfl
                  subst hnq
                  clear he3'
                  go_wp2_with fail
                  refine HAW.out.mono ?_
                  rintro e w6 ⟨rfl, hb6⟩
                  have HW6 := Lib.hid (HW5.out.trans (hb6.mono HW5.out.size)); clear hb6
                  go_wp2_with fail
                  go_ret
                  exact ⟨rfl, HW6.out⟩
                · have hnq : nn ≠ q := fun h => by have := he3'.2 h; omega
                  have hnqi : ((nn : Int) == (q : Int)) = false := by rw [beq_eq_false_iff_ne]; omega
                  clear he3'
                  go_wp2_with fail
                  refine HAW.out.mono ?_
                  rintro e w6 ⟨rfl, hb6⟩
                  have HW6 := Lib.hid (HW5.out.trans (hb6.mono HW5.out.size)); clear hb6
                  go_wp2_with fail
                  go_ret
                  exact ⟨rfl, HW6.out⟩
          · by_cases hjn : j < n1
            · clear HSB
              go_wp2_with fail
              refine (HJN.out _ HB.out).mono ?_
              rintro e w1 ⟨A5, n5, c5, rfl, hn5, hc5, hm5, hB5, hb5⟩
              have hn5u : n5 ≤ 8000 := by rw [← hn5]; exact HJS.out
              have HN5 := Lib.hid hn5; clear hn5
              have HB5 := Lib.hid hB5; clear hB5
              have HW1 := Lib.hid (HB.out.trans (hb5.mono HB.out.size))
              have HR4a := Lib.hid (HR4.out.below hb5)
              clear hb5
              go_wp2_with fail
              refine (all_any A5 n5 c5 J _ HN5.out (by omega) hc5 HB5.out (HK.out.below HW1.out)).mono ?_
              rw [HALL.out]
              rintro e w2 ⟨v1, v2, rfl, vs2, o1, o2, hS, hb2⟩
              have hil : its.length = j := HZL.out
              have o1' : w2.ownsRow w1.heap.size 5 1 v1 its.length ((its.map Prod.fst).map bv) := o1
              have o2' : w2.ownsRow w1.heap.size 22 1 v2 its.length vs2 := o2
              rw [hil] at o1' o2'
              clear o1 o2 hil
              obtain ⟨A6, c6, rfl, hc6, hm6⟩ := own_slice o1'
              obtain ⟨A7, c7, rfl, hc7, hm7⟩ := own_slice o2'
              have HB6 : Hid (Bytes w2 A6 (its.map Prod.fst)) := by
                obtain ⟨A', c', h, _, _, _, hB⟩ := bytes_of_own o1'
                injection h with h _ _
                subst h
                exact hB
              have HR7 : Hid (Row w2 A7 vs2) := row_of_own o2'
              have HS7 := Lib.hid hS
              clear o1' o2' hS
              have HW2 := Lib.hid (HW1.out.trans (hb2.mono HW1.out.size))
              have HR4b := Lib.hid (HR4a.out.below hb2)
              have HB5b := Lib.hid (HB5.out.below hb2)
              clear hb2
              have HSAME := Lib.hid (same_slices A6 A7 A4 j c6 j c7 j c4 (its.map Prod.fst) (ks.take j) (its.map Prod.snd) (ds.take j) vs2 (vs.take j) _ _ w2 (by rw [List.length_map]; exact HZL.out) (by rw [List.length_map]; exact HZL.out) HT1.out HT2.out (by omega) (by omega) (by omega) HB6.out HR7.out HS7.out HR4b.out (HSL.out w2 HW2.out))
              have hse : (its.map Prod.fst == ks.take j && its.map Prod.snd == ds.take j) = true := by rw [HM1.out, HM2.out]; simp
              rw [hse] at HSAME
              clear hse
              rw [HN5.out]
              go_wp2_with fail
              refine HSAME.out.mono ?_
              rintro e w3 ⟨rfl, hb3⟩
              have HW3 := Lib.hid (HW2.out.trans (hb3.mono HW2.out.size))
              have HR4c := Lib.hid (HR4b.out.below hb3)
              have HB5c := Lib.hid (HB5b.out.below hb3)
              clear hb3 HSAME HB6 HR7 HS7
              by_cases hneg : cut < 0
              · go_wp2_with fail
                refine (awake04_any _ (HK.out.below HW3.out)).mono ?_
                rintro e w4 ⟨rfl, hb⟩
                have HB4 := Lib.hid (HW3.out.trans (hb.mono HW3.out.size)); clear hb
                go_wp2_with fail
                go_ret
                exact ⟨rfl, HB4.out⟩
              · obtain ⟨q, hq⟩ := Int.eq_ofNat_of_zero_le (show 0 ≤ cut by omega)
                have hq' : cut = (q : Int) := hq
                subst hq'
                clear hq hneg
                have hc2 := HC2.out
                have HQ := Lib.hid hc2; clear hc2
                by_cases hbig : n5 < q
                · go_wp2_with fail
                  refine (awake04_any _ (HK.out.below HW3.out)).mono ?_
                  rintro e w4 ⟨rfl, hb⟩
                  have HB4 := Lib.hid (HW3.out.trans (hb.mono HW3.out.size)); clear hb
                  go_wp2_with fail
                  go_ret
                  exact ⟨rfl, HB4.out⟩
                · have hqn : q ≤ n5 := by omega
                  obtain ⟨⟨m, hm, he1⟩, he2, he3, he4⟩ := HCUT.out q (by rw [HN5.out]; exact hqn)
                  obtain ⟨⟨its2, nn, er⟩, hr⟩ : ∃ r, Frm.allS (J.take q) = r := ⟨_, rfl⟩
                  rw [hr] at he1 he2 he3 he4
                  have he1' : its2 = its.take m := he1
                  have he2' : nn ≤ q := he2
                  have he3' : er = 0 ↔ nn = q := he3
                  have he4' : er = 0 ∨ er = 12 := he4
                  clear he1 he2 he3 he4
                  have hmj : m ≤ j := by have := HZL.out; omega
                  have hi2 : its2.length = m := by rw [he1', List.length_take]; omega
                  have HI2 := Lib.hid hi2; clear hi2
                  have HE1 := Lib.hid he1'; clear he1' hm
                  go_wp2_with fail
                  refine (all_any A5 q c5 (J.take q) _ (by rw [List.length_take, HN5.out]; omega) (by omega) (by omega) (HB5c.out.take q) (HK.out.below HW3.out)).mono ?_
                  rw [hr]
                  clear hr
                  rintro e w4 ⟨v1, v2, rfl, vs3, o1, o2, hS, hb4⟩
                  have o1' : w4.ownsRow w3.heap.size 5 1 v1 its2.length ((its2.map Prod.fst).map bv) := o1
                  have o2' : w4.ownsRow w3.heap.size 22 1 v2 its2.length vs3 := o2
                  rw [HI2.out] at o1' o2'
                  clear o1 o2
                  obtain ⟨A8, c8, rfl, hc8, hm8⟩ := own_slice o1'
                  obtain ⟨A9, c9, rfl, hc9, hm9⟩ := own_slice o2'
                  have HB8 : Hid (Bytes w4 A8 (its2.map Prod.fst)) := by
                    obtain ⟨A', c', h, _, _, _, hB⟩ := bytes_of_own o1'
                    injection h with h _ _
                    subst h
                    exact hB
                  have HR9 : Hid (Row w4 A9 vs3) := row_of_own o2'
                  have HS9 := Lib.hid hS
                  clear o1' o2' hS
                  have HW4 := Lib.hid (HW3.out.trans (hb4.mono HW3.out.size))
                  have HR4d := Lib.hid (HR4c.out.below hb4)
                  clear hb4
                  have hrow : Row w4 A4 (flat ((ks.take j).take m) ((vs.take j).take m)) := by
                    have := HR4d.out.take (2 * m)
                    rwa [flat_take] at this
                  have HSAME := Lib.hid (same_slices A8 A9 A4 m c8 m c9 m c4 (its2.map Prod.fst) ((ks.take j).take m) (its2.map Prod.snd) ((ds.take j).take m) vs3 ((vs.take j).take m) _ _ w4 (by rw [List.length_map]; exact HI2.out) (by rw [List.length_map]; exact HI2.out) (by rw [List.length_take, HT1.out]; omega) (by rw [List.length_take, HT2.out]; omega) (by omega) (by omega) (by omega) HB8.out HR9.out HS9.out hrow ((HSL.out w4 HW4.out).take m))
                  have hse : (its2.map Prod.fst == (ks.take j).take m && its2.map Prod.snd == (ds.take j).take m) = true := by
                    rw [HE1.out, List.map_take, List.map_take, HM1.out, HM2.out]; simp
                  rw [hse] at HSAME
                  clear hse hrow
                  go_wp2_with fail
                  refine HSAME.out.mono ?_
                  rintro e w5 ⟨rfl, hb5⟩
                  have HW5 := Lib.hid (HW4.out.trans (hb5.mono HW4.out.size)); clear hb5 HSAME
                  have HAW := Lib.hid (awake04_any w5 (HK.out.below HW5.out))
                  rcases he4' with rfl | rfl
                  · have hnq : nn = q := he3'.1 rfl
                    subst hnq
                    clear he3'
                    go_wp2_with fail
                    refine HAW.out.mono ?_
                    rintro e w6 ⟨rfl, hb6⟩
                    have HW6 := Lib.hid (HW5.out.trans (hb6.mono HW5.out.size)); clear hb6
                    go_wp2_with fail
                    go_ret
                    exact ⟨rfl, HW6.out⟩
                  · have hnq : nn ≠ q := fun h => by have := he3'.2 h; omega
                    have hnqi : ((nn : Int) == (q : Int)) = false := by rw [beq_eq_false_iff_ne]; omega
                    clear he3'
                    go_wp2_with fail
                    refine HAW.out.mono ?_
                    rintro e w6 ⟨rfl, hb6⟩
                    have HW6 := Lib.hid (HW5.out.trans (hb6.mono HW5.out.size)); clear hb6
                    go_wp2_with fail
                    go_ret
                    exact ⟨rfl, HW6.out⟩
            · clear HSB
              go_wp2_with fail
              refine (HJN.out _ HB.out).mono ?_
              rintro e w1 ⟨A5, n5, c5, rfl, hn5, hc5, hm5, hB5, hb5⟩
              have hn5u : n5 ≤ 8000 := by rw [← hn5]; exact HJS.out
              have HN5 := Lib.hid hn5; clear hn5
              have HB5 := Lib.hid hB5; clear hB5
              have HW1 := Lib.hid (HB.out.trans (hb5.mono HB.out.size))
              have HR4a := Lib.hid (HR4.out.below hb5)
              clear hb5
              go_wp2_with fail
              refine (all_any A5 n5 c5 J _ HN5.out (by omega) hc5 HB5.out (HK.out.below HW1.out)).mono ?_
              rw [HALL.out]
              rintro e w2 ⟨v1, v2, rfl, vs2, o1, o2, hS, hb2⟩
              have hil : its.length = j := HZL.out
              have o1' : w2.ownsRow w1.heap.size 5 1 v1 its.length ((its.map Prod.fst).map bv) := o1
              have o2' : w2.ownsRow w1.heap.size 22 1 v2 its.length vs2 := o2
              rw [hil] at o1' o2'
              clear o1 o2 hil
              obtain ⟨A6, c6, rfl, hc6, hm6⟩ := own_slice o1'
              obtain ⟨A7, c7, rfl, hc7, hm7⟩ := own_slice o2'
              have HB6 : Hid (Bytes w2 A6 (its.map Prod.fst)) := by
                obtain ⟨A', c', h, _, _, _, hB⟩ := bytes_of_own o1'
                injection h with h _ _
                subst h
                exact hB
              have HR7 : Hid (Row w2 A7 vs2) := row_of_own o2'
              have HS7 := Lib.hid hS
              clear o1' o2' hS
              have HW2 := Lib.hid (HW1.out.trans (hb2.mono HW1.out.size))
              have HR4b := Lib.hid (HR4a.out.below hb2)
              have HB5b := Lib.hid (HB5.out.below hb2)
              clear hb2
              have HSAME := Lib.hid (same_slices A6 A7 A4 j c6 j c7 j c4 (its.map Prod.fst) (ks.take j) (its.map Prod.snd) (ds.take j) vs2 (vs.take j) _ _ w2 (by rw [List.length_map]; exact HZL.out) (by rw [List.length_map]; exact HZL.out) HT1.out HT2.out (by omega) (by omega) (by omega) HB6.out HR7.out HS7.out HR4b.out (HSL.out w2 HW2.out))
              have hse : (its.map Prod.fst == ks.take j && its.map Prod.snd == ds.take j) = true := by rw [HM1.out, HM2.out]; simp
              rw [hse] at HSAME
              clear hse
              rw [HN5.out]
              go_wp2_with fail
              refine HSAME.out.mono ?_
              rintro e w3 ⟨rfl, hb3⟩
              have HW3 := Lib.hid (HW2.out.trans (hb3.mono HW2.out.size))
              have HR4c := Lib.hid (HR4b.out.below hb3)
              have HB5c := Lib.hid (HB5b.out.below hb3)
              clear hb3 HSAME HB6 HR7 HS7
              by_cases hneg : cut < 0
              · go_wp2_with fail
                refine (awake04_any _ (HK.out.below HW3.out)).mono ?_
                rintro e w4 ⟨rfl, hb⟩
                have HB4 := Lib.hid (HW3.out.trans (hb.mono HW3.out.size)); clear hb
                go_wp2_with fail
                go_ret
                exact ⟨rfl, HB4.out⟩
              · obtain ⟨q, hq⟩ := Int.eq_ofNat_of_zero_le (show 0 ≤ cut by omega)
                have hq' : cut = (q : Int) := hq
                subst hq'
                clear hq hneg
                have hc2 := HC2.out
                have HQ := Lib.hid hc2; clear hc2
                by_cases hbig : n5 < q
                · go_wp2_with fail
                  refine (awake04_any _ (HK.out.below HW3.out)).mono ?_
                  rintro e w4 ⟨rfl, hb⟩
                  have HB4 := Lib.hid (HW3.out.trans (hb.mono HW3.out.size)); clear hb
                  go_wp2_with fail
                  go_ret
                  exact ⟨rfl, HB4.out⟩
                · have hqn : q ≤ n5 := by omega
                  obtain ⟨⟨m, hm, he1⟩, he2, he3, he4⟩ := HCUT.out q (by rw [HN5.out]; exact hqn)
                  obtain ⟨⟨its2, nn, er⟩, hr⟩ : ∃ r, Frm.allS (J.take q) = r := ⟨_, rfl⟩
                  rw [hr] at he1 he2 he3 he4
                  have he1' : its2 = its.take m := he1
                  have he2' : nn ≤ q := he2
                  have he3' : er = 0 ↔ nn = q := he3
                  have he4' : er = 0 ∨ er = 12 := he4
                  clear he1 he2 he3 he4
                  have hmj : m ≤ j := by have := HZL.out; omega
                  have hi2 : its2.length = m := by rw [he1', List.length_take]; omega
                  have HI2 := Lib.hid hi2; clear hi2
                  have HE1 := Lib.hid he1'; clear he1' hm
                  go_wp2_with fail
                  refine (all_any A5 q c5 (J.take q) _ (by rw [List.length_take, HN5.out]; omega) (by omega) (by omega) (HB5c.out.take q) (HK.out.below HW3.out)).mono ?_
                  rw [hr]
                  clear hr
                  rintro e w4 ⟨v1, v2, rfl, vs3, o1, o2, hS, hb4⟩
                  have o1' : w4.ownsRow w3.heap.size 5 1 v1 its2.length ((its2.map Prod.fst).map bv) := o1
                  have o2' : w4.ownsRow w3.heap.size 22 1 v2 its2.length vs3 := o2
                  rw [HI2.out] at o1' o2'
                  clear o1 o2
                  obtain ⟨A8, c8, rfl, hc8, hm8⟩ := own_slice o1'
                  obtain ⟨A9, c9, rfl, hc9, hm9⟩ := own_slice o2'
                  have HB8 : Hid (Bytes w4 A8 (its2.map Prod.fst)) := by
                    obtain ⟨A', c', h, _, _, _, hB⟩ := bytes_of_own o1'
                    injection h with h _ _
                    subst h
                    exact hB
                  have HR9 : Hid (Row w4 A9 vs3) := row_of_own o2'
                  have HS9 := Lib.hid hS
                  clear o1' o2' hS
                  have HW4 := Lib.hid (HW3.out.trans (hb4.mono HW3.out.size))
                  have HR4d := Lib.hid (HR4c.out.below hb4)
                  clear hb4
                  have hrow : Row w4 A4 (flat ((ks.take j).take m) ((vs.take j).take m)) := by
                    have := HR4d.out.take (2 * m)
                    rwa [flat_take] at this
                  have HSAME := Lib.hid (same_slices A8 A9 A4 m c8 m c9 m c4 (its2.map Prod.fst) ((ks.take j).take m) (its2.map Prod.snd) ((ds.take j).take m) vs3 ((vs.take j).take m) _ _ w4 (by rw [List.length_map]; exact HI2.out) (by rw [List.length_map]; exact HI2.out) (by rw [List.length_take, HT1.out]; omega) (by rw [List.length_take, HT2.out]; omega) (by omega) (by omega) (by omega) HB8.out HR9.out HS9.out hrow ((HSL.out w4 HW4.out).take m))
                  have hse : (its2.map Prod.fst == (ks.take j).take m && its2.map Prod.snd == (ds.take j).take m) = true := by
                    rw [HE1.out, List.map_take, List.map_take, HM1.out, HM2.out]; simp
                  rw [hse] at HSAME
                  clear hse hrow
                  go_wp2_with fail
                  refine HSAME.out.mono ?_
                  rintro e w5 ⟨rfl, hb5⟩
                  have HW5 := Lib.hid (HW4.out.trans (hb5.mono HW4.out.size)); clear hb5 HSAME
                  have HAW := Lib.hid (awake04_any w5 (HK.out.below HW5.out))
                  rcases he4' with rfl | rfl
                  · have hnq : nn = q := he3'.1 rfl
                    subst hnq
                    clear he3'
                    go_wp2_with fail
                    refine HAW.out.mono ?_
                    rintro e w6 ⟨rfl, hb6⟩
                    have HW6 := Lib.hid (HW5.out.trans (hb6.mono HW5.out.size)); clear hb6
                    go_wp2_with fail
                    go_ret
                    exact ⟨rfl, HW6.out⟩
                  · have hnq : nn ≠ q := fun h => by have := he3'.2 h; omega
                    have hnqi : ((nn : Int) == (q : Int)) = false := by rw [beq_eq_false_iff_ne]; omega
                    clear he3'
                    go_wp2_with fail
                    refine HAW.out.mono ?_
                    rintro e w6 ⟨rfl, hb6⟩
                    have HW6 := Lib.hid (HW5.out.trans (hb6.mono HW5.out.size)); clear hb6
                    go_wp2_with fail
                    go_ret
                    exact ⟨rfl, HW6.out⟩

theorem law_frameBack (A1 A2 : Option Addr) (n1 c1 n2 c2 : Nat) (ks : List UInt8) (ds : List (List UInt8)) (vs : List Value) (cut : Int) (w : World)
    (h1 : ks.length = n1) (h2 : ds.length = n2) (hl1 : n1 ≤ 140737488355328) (hl2 : n2 ≤ 140737488355328) (hds : ∀ d ∈ ds, d.length ≤ 140737488355328) (hcut1 : -9223372036854775808 ≤ cut) (hcut2 : cut ≤ 9223372036854775807)
    (hB1 : Bytes w A1 ks) (hR2 : Row w A2 vs) (hS2 : Sls w (fun b => b < w.heap.size) vs ds) (hk : Known w) :
    Calls Tryd.prog 11 #[.slice A1 n1 c1, .slice A2 n2 c2, .int .i64 cut] w (Yes w) := by
  by_cases h : n2 ≤ 200 ∧ sumL ds ≤ 5000
  · exact law_frameBack_in A1 A2 n1 c1 n2 c2 ks ds vs cut w h1 h2 hl1 hl2 hds hcut1 hcut2 h hB1 hR2 hS2 hk
  · exact law_frameBack_out A1 A2 n1 c1 n2 c2 ks ds vs cut w h1 h2 hl1 hl2 hds hcut1 hcut2 (by omega) hB1 hR2 hS2 hk
end Go.Proofs.YtpdbbiokndhghaaDoor
