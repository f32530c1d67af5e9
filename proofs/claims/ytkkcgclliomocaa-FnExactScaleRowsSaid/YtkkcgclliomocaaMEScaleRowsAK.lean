/-
  FnExactScaleRows: texts joined: ScaleS, OpenRb.
-/
import Derived.Test.YtkkcgclliomocaaMEScaleRowsAG
import Derived.Test.YtkkcgclliomocaaMEScaleRowsAJ
namespace Go.Proofs.Ytkkcgclliomocaa
open Go.RowKit

theorem specRow_atB (V i n c b off m o bb : Nat) (v2 v3 : Value) (w : World) (hk : Blk w bb 50 #[.int .i64 V, .slice (some ⟨b, off, none⟩) n c, v2, v3]) (hm : m = i * V) (ho : o = off + m) (hv1 : 1 ≤ V) (hv8 : V ≤ 8) (hi8 : i < 8) (hmm : m + V ≤ n) (hx64 : n ≤ 64) (hc1a : n ≤ c) (hc1b : c ≤ maxLen) :
    Calls Try.prog 73 #[.pointer (some ⟨bb, 0, none⟩), .int .i64 i] w fun e w' => e = .returned (.slice (some ⟨b, o, none⟩) V (c - m)) ∧ ∃ q, w' = w.drewN q := by
  subst hm ho
  exact specRow_at V i n c b off bb v2 v3 w hk hv1 hv8 hi8 hmm hx64 hc1a hc1b

set_option maxHeartbeats 4000000 in
set_option maxRecDepth 4000 in
theorem scaleS_any (v : Value) (r : RowsD) (w : World) (h : RdR w v r) (hbits : BitsF r.nums) :
    Calls Try.prog 27 #[v] w fun e w' => ∃ v', e = .returned (.tuple #[v', .bool (scaleOk r)]) ∧ OwnR w.heap.size w'.heap.size w' v' (scaleV r) ∧ Below w.heap.size w w' := by
  obtain ⟨a1, c1, a2, c2, a3, c3, rfl⟩ := h.shape
  obtain ⟨n0, x1, x2, x3⟩ := r
  simp only at h ⊢
  obtain ⟨R, hR⟩ : ∃ R : RowsD, R = ⟨n0, x1, x2, x3⟩ := ⟨_, rfl⟩
  have hR1 : R.nums = x1 := by rw [hR]
  have hR2 : R.bnds = x2 := by rw [hR]
  have hR3 : R.gains = x3 := by rw [hR]
  have hR0 : R.vars = n0 := by rw [hR]
  have HBITS := Lib.hid (show BitsF R.nums by rw [hR1]; exact hbits)
  clear hbits
  rw [← hR] at h ⊢
  obtain ⟨OK, hOK⟩ : ∃ OK : Bool, OK = scaleOk R := ⟨_, rfl⟩
  obtain ⟨AV, hAV⟩ : ∃ AV : RowsD, AV = scaleV R := ⟨_, rfl⟩
  rw [← hOK, ← hAV]
  obtain ⟨N1, hN1⟩ : ∃ N1, N1 = x1.length := ⟨_, rfl⟩
  obtain ⟨N2, hN2⟩ : ∃ N2, N2 = x2.length := ⟨_, rfl⟩
  obtain ⟨V, hV⟩ : ∃ V, V = x3.length := ⟨_, rfl⟩
  rw [← hN1, ← hN2, ← hV] at h ⊢
  have HP := Lib.hid h
  have HOK := Lib.hid hOK
  have HAV := Lib.hid hAV
  have HN1 := Lib.hid (hN1.trans (by rw [hR1]) : N1 = R.nums.length)
  have HN2 := Lib.hid (hN2.trans (by rw [hR2]) : N2 = R.bnds.length)
  have HV := Lib.hid (hV.trans (by rw [hR3]) : V = R.gains.length)
  have HR0 := Lib.hid hR0
  clear h hOK hAV hN1 hN2 hV hR hR0 hR1 hR2 hR3
  go_enter Try.func27, Try.ntmps27
  go_upto_region 1 with fail
  refine wp_at fun W hW => ?_
  have HB := Lib.hid (show Below w.heap.size w W by subst hW; (repeat' first | exact Below.refl _ _ | assumption | refine Below.alloc ?_ ?_ _ | refine Below.setCell ?_ ?_ _ | refine Below.drew ?_ | (simp; done) | (simp; omega)))
  have HK := Lib.hid (show Blk W w.heap.size 50 #[.int .i64 n0, .slice a1 N1 c1, .slice a2 N2 c2, .slice a3 V c3] by subst hW; exact (Blk.new _ _ _).alloc _)
  have HL := Lib.hid (show Blk W (w.heap.size + 1) 50 #[.int .i64 0, .slice none 0 0, .slice none 0 0, .slice none 0 0] by subst hW; exact Blk.newB _ _ _ _ (by simp))
  clear hW
  have hl1 := HL.out.lt
  have HPW := Lib.hid (HP.out.up HB.out (Nat.le_refl _))
  go_wp2_with fail
  refine (l02Is_any w.heap.size _ _ _ _ R W HK.out HPW.out).mono ?_
  rintro e wc ⟨rfl, hm⟩
  have hbw : Below W.heap.size W wc := by obtain ⟨m, rfl⟩ := hm; exact below_drewN (Below.refl _ _) _
  have HBw := Lib.hid hbw
  have hsz := hbw.size
  have HLc := Lib.hid (HL.out.below hbw HL.out.lt)
  have HKc := Lib.hid (HK.out.below hbw HK.out.lt)
  clear hbw hm
  by_cases hv : validR R = true
  case neg =>
    rw [Bool.not_eq_true] at hv
    have HVN := Lib.hid hv
    rw [hv]
    clear hv
    have e0 := HLc.out.cell 0 rfl
    have e1 := HLc.out.cell 1 rfl
    have e2 := HLc.out.cell 2 rfl
    have e3 := HLc.out.cell 3 rfl
    have f0 := HLc.out.free 0
    have f1 := HLc.out.free 1
    have f2 := HLc.out.free 2
    have f3 := HLc.out.free 3
    go_wp2_with fail
    refine bodyPost_ret (v := .tuple #[.agg #[.int .i64 0, .slice none 0 0, .slice none 0 0, .slice none 0 0], .bool false]) (by simp [results, Try.results27, go_sem, *]) rfl ?_
    have hok : scaleOk R = false := by unfold scaleOk; rw [HVN.out]; rfl
    refine ⟨_, by rw [HOK.out, hok], ?_, ?_⟩
    · rw [HAV.out, scaleV, hok]; exact ownR_zero _ _ _
    · refine (HB.out.trans (HBw.out.mono HB.out.size)).trans (Kept.toBelow (S := (· = w.heap.size + 1)) ?_ (by omega) (by intro k h1 h2; omega))
      repeat' first | exact Kept.refl _ _ | refine Kept.setCell ?_ (.inr (by simp)) _
  have HVR := Lib.hid (validR_iff.1 hv)
  rw [hv]
  clear hv
  have HPc := Lib.hid (HP.out.up (HB.out.trans (HBw.out.mono HB.out.size)) (Nat.le_refl _))
  have hbo := boundR HP.out HVR.out
  rw [← HN1.out, ← HN2.out, ← HV.out] at hbo
  obtain ⟨hb64, hb8, hv8⟩ := hbo
  have hv1 : 1 ≤ V := by have h1 := HVR.out.v1; have h2 := HVR.out.gl; have h3 := HV.out; omega
  have hn2 : 1 ≤ N2 := by have h1 := HVR.out.b1; have h3 := HN2.out; omega
  have hn0 : n0 = (V : Int) := by have h2 := HVR.out.gl; have h3 := HV.out; have h4 := HR0.out; omega
  have hnl : N1 = N2 * V := by
    have h1 := HVR.out.nl
    rw [← HN1.out, ← HN2.out, HR0.out, hn0, Int.mul_comm] at h1
    exact_mod_cast h1
  subst hn0
  have HNL := Lib.hid hnl
  have hn1 : 1 ≤ N1 := by rw [hnl]; exact Nat.mul_pos hn2 hv1
  clear hnl
  go_upto_region 4 with (go_at_call 72; refine (l02Own_any w.heap.size _ _ _ _ R _ HKc.out HPc.out (by have := HN1.out; have := HN2.out; have := HV.out; simp only [bulkR]; omega)).mono ?_; rintro e w1 ⟨v', rfl, ho, hb1⟩; obtain ⟨b1, k1, b2, k2, b3, k3, rfl⟩ := ho.rd.shape; rw [← HN1.out, ← HN2.out, ← HV.out, HR0.out] at ho ⊢; have HO := Lib.hid ho; have HB1 := Lib.hid hb1; have hs1 := hb1.size; clear ho hb1)
  refine wp_at fun W4 hW4 => ?_
  have HG := Lib.hid (show Blk W4 w1.heap.size 50 #[.int .i64 V, .slice b1 N1 k1, .slice b2 N2 k2, .slice b3 V k3] by subst hW4; exact Blk.newB _ _ _ _ (by simp))
  have HO4 := Lib.hid (show OwnR wc.heap.size w1.heap.size W4 (.agg #[.int .i64 V, .slice b1 N1 k1, .slice b2 N2 k2, .slice b3 V k3]) R by
    subst hW4; exact HO.out.up ((Below.refl _ _).alloc (Nat.le_refl _) _) (Nat.le_refl _))
  have HB4 := Lib.hid (show Below wc.heap.size wc W4 by subst hW4; exact HB1.out.alloc HB1.out.size _)
  have hs4 : w1.heap.size < W4.heap.size := HG.out.lt
  clear hW4 HO HB1
  obtain ⟨G, hGe⟩ : ∃ G, G = w1.heap.size := ⟨_, rfl⟩
  rw [← hGe] at HG HO4 hs4 hs1 ⊢
  clear hGe
  have o1 : W4.ownsRow wc.heap.size 98 1 (.slice b1 N1 k1) N1 ((stN R (0 * V)).map F32) := by have := HO4.out.parts.1.1; rw [← HN1.out] at this; rw [Nat.zero_mul, stN_zero]; exact this
  have o2 : W4.ownsRow wc.heap.size 98 1 (.slice b2 N2 k2) N2 ((stB R 0).map F32) := by have := HO4.out.parts.2.1.1; rw [← HN2.out] at this; rw [stB_zero]; exact this
  have o3 : W4.ownsRow wc.heap.size 98 1 (.slice b3 V k3) V (R.gains.map F32) := by have := HO4.out.parts.2.2.1; rw [← HV.out] at this; exact this
  obtain ⟨g1, rfl, hg1⟩ := owns_slice_some o1 hn1
  obtain ⟨g2, rfl, hg2⟩ := owns_slice_some o2 hn2
  obtain ⟨g3, rfl, hg3⟩ := owns_slice_some o3 hv1
  have hh1 : g1 < G := HO4.out.parts.1.2 g1 rfl
  have hh2 : g2 < G := HO4.out.parts.2.1.2 g2 rfl
  have hh3 : g3 < G := HO4.out.parts.2.2.2 g3 rfl
  have n12 : ¬ g1 = g2 := fun e => HO4.out.apart.1 g1 rfl (by rw [e]; rfl)
  have n13 : ¬ g1 = g3 := fun e => HO4.out.apart.2.1 g1 rfl (by rw [e]; rfl)
  have n23 : ¬ g2 = g3 := fun e => HO4.out.apart.2.2 g2 rfl (by rw [e]; rfl)
  have kc1 := (HO4.out.parts.1.rd).caps
  have kc2 := (HO4.out.parts.2.1.rd).caps
  obtain ⟨b, off, rfl, _, _⟩ := (show RdF wc (.slice a2 N2 c2) R.bnds from HPc.out.parts.2.1).at (show 0 < R.bnds.length by rw [← HN2.out]; exact hn2)
  have HO1 := Lib.hid o1
  have HO2 := Lib.hid o2
  have HO3 := Lib.hid o3
  clear o1 o2 o3 HO4
  go_wp2_with fail
  go_loopw [5] (fun iv wr => ∃ i : Nat, iv = .int .i64 i ∧ i ≤ N2 ∧ Hid (wr.ownsRow wc.heap.size 98 1 (.slice (some ⟨g1, 0, none⟩) N1 k1) N1 ((stN R (i * V)).map F32)) ∧ Hid (wr.ownsRow wc.heap.size 98 1 (.slice (some ⟨g2, 0, none⟩) N2 k2) N2 ((stB R i).map F32)) ∧ Hid (wr.ownsRow wc.heap.size 98 1 (.slice (some ⟨g3, 0, none⟩) V k3) V (R.gains.map F32)) ∧ Hid (Blk wr G 50 #[.int .i64 V, .slice (some ⟨g1, 0, none⟩) N1 k1, .slice (some ⟨g2, 0, none⟩) N2 k2, .slice (some ⟨g3, 0, none⟩) V k3]) ∧ Hid (Below wc.heap.size wc wr)) (fun iv _ => N2 - (intOf iv).toNat)
  case atStart => exact ⟨0, rfl, Nat.zero_le _, HO1, HO2, HO3, HG, HB4⟩
  case round =>
    clear HO1 HO2 HO3 HG HB4
    obtain ⟨i, rfl, hi, HO1, HO2, HO3, HG, HB4⟩ := hrel
    obtain ⟨wo, rfl⟩ : ∃ wo, wo = wr := ⟨wr, rfl⟩
    have hsw := HB4.out.size
    by_cases hlt : i < N2
    · have hltI : (i : Int) < (N2 : Int) := by omega
      obtain ⟨m, hm⟩ : ∃ m, m = i * V := ⟨_, rfl⟩
      have hmm : m + V ≤ N1 := by
        rw [hm, HNL.out, ← Nat.succ_mul]
        exact Nat.mul_le_mul_right _ hlt
      have HM := Lib.hid hm
      rw [← hm] at HO1
      clear hm
      have HKw := Lib.hid (HKc.out.below HB4.out (show w.heap.size < wc.heap.size by omega))
      have d2 := HKw.out.cell 2 rfl
      go_wp2_with fail
      refine (specRow_atB V i N1 k1 g1 0 m m G _ _ wo HG.out HM.out (by omega) hv1 hv8 (by omega) hmm hb64 kc1.1 kc1.2).mono ?_
      rintro e wA ⟨rfl, mA, hmA⟩
      have hbA : Below wo.heap.size wo wA := by rw [hmA]; exact below_drewN (Below.refl _ _) _
      have HBA := Lib.hid (HB4.out.trans (hbA.mono hsw))
      have HOA1 := Lib.hid (owns_below HO1.out hbA (Nat.le_refl _))
      have HOA2 := Lib.hid (owns_below HO2.out hbA (Nat.le_refl _))
      have HOA3 := Lib.hid (owns_below HO3.out hbA (Nat.le_refl _))
      have HGA := Lib.hid (HG.out.below hbA HG.out.lt)
      have HROW := Lib.hid (show ∀ k, k < V → wA.cell? ⟨g1, m + k, none⟩ = some (.float .f32 ((rowO R i).getD k 0)) from fun k hk => by
        have hp := ownF_cell HOA1.out (by rw [stN_len, ← HN1.out]) (show m + k < N1 by omega)
        rw [stN_at R (by rw [← HN1.out]; omega) (by omega)] at hp
        rw [rowO_at (by rw [← HV.out]; exact hk), ← HV.out, ← HM.out]
        exact hp)
      have HXB := Lib.hid (show ∀ k, k < V → (rowO R i).getD k 0 < 4294967296 from fun k hk => by
        rw [rowO_at (by rw [← HV.out]; exact hk), ← HV.out, ← HM.out]
        have hlt2 : m + k < R.nums.length := by rw [← HN1.out]; omega
        rw [List.getD_eq_getElem?_getD, List.getElem?_eq_getElem hlt2]
        exact HBITS.out _ (List.getElem_mem hlt2))
      have HRF := Lib.hid (rowO_fin HVR.out i)
      have HRL := Lib.hid (show (rowO R i).length = V by rw [rowO_len HVR.out (by rw [← HN2.out]; exact hlt), ← HV.out])
      have hsA := hbA.size
      clear hbA hmA d2
      go_wp2_with fail
      go_loop [6, 8] (fun mv kv => ∃ k : Nat, kv = .int .i64 k ∧ k ≤ V ∧ mv = .float .f32 (mostK (rowO R i) k)) (fun _ kv => V - (intOf kv).toNat)
      case atStart => exact ⟨0, rfl, Nat.zero_le _, rfl⟩
      case round =>
        obtain ⟨k, rfl, hk, rfl⟩ := hrel
        have HMK := Lib.hid (mostK_ok HRF.out k (by rw [HRL.out]; exact hk))
        by_cases hkV : k < V
        · have hkI : (k : Int) < (V : Int) := by omega
          have ck := HROW.out k hkV
          have HS := Lib.hid (show mostK (rowO R i) (k + 1) = mxF (mostK (rowO R i) k) (abs32 ((rowO R i).getD k 0)) from rfl)
          have HXF := Lib.hid (allFin_get HRF.out (i := k) (by rw [HRL.out]; exact hkV))
          have HX4 := Lib.hid (HXB.out k hkV)
          obtain ⟨x, hx⟩ : ∃ x, x = (rowO R i).getD k 0 := ⟨_, rfl⟩
          obtain ⟨mo, hmo⟩ : ∃ mo, mo = mostK (rowO R i) k := ⟨_, rfl⟩
          rw [← hx] at ck HS HXF HX4
          rw [← hmo] at HS HMK ⊢
          clear hx hmo
          by_cases hg : gtF (abs32 x) mo = true
          · have og := yes_gt_b hg
            have HE := Lib.hid (show mostK (rowO R i) (k + 1) = abs32 x by rw [HS.out, mxF, hg]; rfl)
            clear hg
            go_wp2_with (go_at_call 74; refine (l02Size_any x HXF.out HX4.out _).mono ?_; rintro e w' ⟨rfl, rfl⟩)
            go_round
            case rel => exact ⟨k + 1, by go_num, by omega, by rw [HE.out]⟩
            case measure => simp [intOf]; omega
          · rw [Bool.not_eq_true] at hg
            have HE := Lib.hid (show mostK (rowO R i) (k + 1) = mo by rw [HS.out, mxF, hg]; rfl)
            have og := not_gt_b hg
            clear hg
            go_wp2_with (go_at_call 74; refine (l02Size_any x HXF.out HX4.out _).mono ?_; rintro e w' ⟨rfl, rfl⟩)
            go_round
            case rel => exact ⟨k + 1, by go_num, by omega, by rw [HE.out]⟩
            case measure => simp [intOf]; omega
        · obtain rfl : k = V := by omega
          obtain ⟨mo, hmo⟩ : ∃ mo, mo = mostK (rowO R i) k := ⟨_, rfl⟩
          rw [← hmo] at HMK ⊢
          have HMO := Lib.hid (show mostR R i = mo by unfold mostR; rw [← HV.out, hmo])
          clear hmo
          by_cases hp : posR R i = true
          · have HPOS := Lib.hid hp
            have hb := yes_gt_b (show gtF mo 0 = true by have := hp; unfold posR at this; rwa [HMO.out] at this)
            have HDG := Lib.hid (show gtF mo 0 = true by have := hp; unfold posR at this; rwa [HMO.out] at this)
            clear hp
            go_wp2_with fail
            clear hb
            go_loopw [9] (fun kv wq => ∃ j : Nat, kv = .int .i64 j ∧ j ≤ k ∧ Hid (wq.ownsRow wc.heap.size 98 1 (.slice (some ⟨g1, 0, none⟩) N1 k1) N1 ((stN R (m + j)).map F32)) ∧ Hid (wq.ownsRow wc.heap.size 98 1 (.slice (some ⟨g2, 0, none⟩) N2 k2) N2 ((stB R i).map F32)) ∧ Hid (wq.ownsRow wc.heap.size 98 1 (.slice (some ⟨g3, 0, none⟩) k k3) k (R.gains.map F32)) ∧ Hid (Blk wq G 50 #[.int .i64 k, .slice (some ⟨g1, 0, none⟩) N1 k1, .slice (some ⟨g2, 0, none⟩) N2 k2, .slice (some ⟨g3, 0, none⟩) k k3]) ∧ Hid (Below wc.heap.size wc wq)) (fun kv _ => k - (intOf kv).toNat)
            case atStart => exact ⟨0, rfl, Nat.zero_le _, HOA1, HOA2, HOA3, HGA, HBA⟩
            case round =>
              obtain ⟨j, rfl, hj, HOB1, HOB2, HOB3, HGB, HBB⟩ := hrel
              obtain ⟨wp, rfl⟩ : ∃ wp, wp = wr := ⟨wr, rfl⟩
              have hsp := HBB.out.size
              by_cases hjk : j < k
              · have hjI : (j : Int) < (k : Int) := by omega
                have hmj : m + j < N1 := by omega
                have HXN := Lib.hid (allFin_get HVR.out.fn (i := m + j) (by rw [← HN1.out]; exact hmj))
                have hq := fun (W : World) => run_div_some (P := Try.prog) 98 (div_some HXN.out HMK.out.1 HDG.out) W
                have HSC := Lib.hid (show scN R (m + j) = divV (R.nums.getD (m + j) 0) mo by
                  have := scN_pos HPOS.out (k := j) (by rw [← HV.out]; exact hjk)
                  rw [← HV.out, ← HM.out, HMO.out] at this
                  exact this)
                obtain ⟨x, hx⟩ : ∃ x, x = R.nums.getD (m + j) 0 := ⟨_, rfl⟩
                have cx := ownF_cell HOB1.out (by rw [stN_len, ← HN1.out]) hmj
                rw [stN_at R (by rw [← HN1.out]; exact hmj) (Nat.le_refl _), ← hx] at cx
                have fx := HOB1.out.frozenAt (m + j)
                rw [← hx] at hq HSC
                obtain ⟨y, hy⟩ : ∃ y, y = divV x mo := ⟨_, rfl⟩
                rw [← hy] at hq HSC
                clear hx hy
                go_wp2_with fail
                go_roundw
                case rel =>
                  refine ⟨j + 1, by go_num, by omega, Lib.hid ?_, Lib.hid ?_, Lib.hid ?_, Lib.hid ?_, Lib.hid ?_⟩
                  · exact ownF_set HOB1.out (m + j) y (by rw [← HSC.out, stN_set R (by rw [← HN1.out]; exact hmj)]; rfl)
                  · exact ownsRow_setCell_other HOB2.out (by intro e; cases e; exact n12 rfl) _
                  · exact ownsRow_setCell_other HOB3.out (by intro e; cases e; exact n13 rfl) _
                  · exact HGB.out.other (show G ≠ g1 by omega) _
                  · exact HBB.out.setCell (show wc.heap.size ≤ g1 by omega) _
                case measure => simp [intOf]; omega
              · obtain rfl : j = k := by omega
                have HKq := Lib.hid (HKc.out.below HBB.out (show w.heap.size < wc.heap.size by omega))
                have d2 := HGB.out.cell 2 rfl
                have q2 := HKq.out.cell 2 rfl
                have HXN := Lib.hid (least_fin (HVR.out.lb i (by rw [← HN2.out]; exact hlt)))
                have hq := fun (W : World) => run_div_some (P := Try.prog) 98 (div_some HXN.out HMK.out.1 HDG.out) W
                have HSC := Lib.hid (show scB R i = divV (R.bnds.getD i 0) mo by rw [scB_pos HPOS.out, HMO.out])
                have cx := (show RdF wp (.slice (some ⟨b, off, none⟩) N2 c2) R.bnds from (HPc.out.up HBB.out (Nat.le_refl _)).parts.2.1).cellAt (j := i) (by rw [← HN2.out]; exact hlt)
                obtain ⟨x, hx⟩ : ∃ x, x = R.bnds.getD i 0 := ⟨_, rfl⟩
                rw [← hx] at hq HSC cx
                have fx := HOB2.out.frozenAt i
                have cy := ownF_cell HOB2.out (by rw [stB_len, ← HN2.out]) hlt
                obtain ⟨y0, hy0⟩ : ∃ y0, y0 = (stB R i).getD i 0 := ⟨_, rfl⟩
                rw [← hy0] at cy
                obtain ⟨y, hy⟩ : ∃ y, y = divV x mo := ⟨_, rfl⟩
                rw [← hy] at hq HSC
                clear hx hy hy0
                have HREL := Lib.hid (show ∀ n, Hid (((wp.setCell ⟨g2, i, none⟩ (.float .f32 y)).drewN n).ownsRow wc.heap.size 98 1 (.slice (some ⟨g1, 0, none⟩) N1 k1) N1 ((stN R ((i + 1) * j)).map F32)) ∧ Hid (((wp.setCell ⟨g2, i, none⟩ (.float .f32 y)).drewN n).ownsRow wc.heap.size 98 1 (.slice (some ⟨g2, 0, none⟩) N2 k2) N2 ((stB R (i + 1)).map F32)) ∧ Hid (((wp.setCell ⟨g2, i, none⟩ (.float .f32 y)).drewN n).ownsRow wc.heap.size 98 1 (.slice (some ⟨g3, 0, none⟩) j k3) j (R.gains.map F32)) ∧ Hid (Blk ((wp.setCell ⟨g2, i, none⟩ (.float .f32 y)).drewN n) G 50 #[.int .i64 j, .slice (some ⟨g1, 0, none⟩) N1 k1, .slice (some ⟨g2, 0, none⟩) N2 k2, .slice (some ⟨g3, 0, none⟩) j k3]) ∧ Hid (Below wc.heap.size wc ((wp.setCell ⟨g2, i, none⟩ (.float .f32 y)).drewN n)) from fun n => by
                  have hb0 : Below (wp.setCell ⟨g2, i, none⟩ (.float .f32 y)).heap.size (wp.setCell ⟨g2, i, none⟩ (.float .f32 y)) ((wp.setCell ⟨g2, i, none⟩ (.float .f32 y)).drewN n) := below_drewN (Below.refl _ _) _
                  refine ⟨Lib.hid ?_, Lib.hid ?_, Lib.hid ?_, Lib.hid ?_, Lib.hid ?_⟩
                  · rw [Nat.succ_mul, ← HM.out]
                    exact owns_below (ownsRow_setCell_other HOB1.out (by intro e; cases e; exact n12 rfl) _) hb0 (Nat.le_refl _)
                  · exact owns_below (ownF_set HOB2.out i y (by rw [← HSC.out, stB_set R (by rw [← HN2.out]; exact hlt)])) hb0 (Nat.le_refl _)
                  · exact owns_below (ownsRow_setCell_other HOB3.out (by intro e; cases e; exact n23 rfl) _) hb0 (Nat.le_refl _)
                  · have := HGB.out.other (show G ≠ (⟨g2, i, none⟩ : Addr).block by show G ≠ g2; omega) (.float .f32 y)
                    exact this.below hb0 this.lt
                  · exact (HBB.out.setCell (show wc.heap.size ≤ g2 by omega) _).trans (hb0.mono (by have := HBB.out.size; simp; omega)))
                go_wp2_with fail
                go_region_with fail
                all_goals
                  go_wp2_with fail
                  go_roundw
                  case rel =>
                    obtain ⟨r1, r2, r3, r4, r5⟩ := HREL.out 1
                    exact ⟨i + 1, by go_num, by omega, r1, r2, r3, r4, r5⟩
                  case measure => simp [intOf]; omega
          · rw [Bool.not_eq_true] at hp
            have HPOS := Lib.hid hp
            have hb := not_gt_b (show gtF mo 0 = false by have := hp; unfold posR at this; rwa [HMO.out] at this)
            clear hp
            go_wp2_with fail
            go_roundw
            case rel =>
              refine ⟨i + 1, by go_num, by omega, Lib.hid ?_, Lib.hid ?_, HOA3, HGA, HBA⟩
              · have := stN_skip HPOS.out
                rw [← HV.out, ← HM.out] at this
                rw [this]
                exact HOA1.out
              · rw [stB_skip HPOS.out]
                exact HOA2.out
            case measure => simp [intOf]; omega
    · obtain rfl : i = N2 := by omega
      have HOR := Lib.hid (show OwnR wc.heap.size G wo (.agg #[.int .i64 V, .slice (some ⟨g1, 0, none⟩) N1 k1, .slice (some ⟨g2, 0, none⟩) i k2, .slice (some ⟨g3, 0, none⟩) V k3]) (scR R) by
        refine ⟨_, _, _, by rw [show (scR R).vars = (V : Int) from HR0.out], ⟨?_, fun g hg => by cases hg; exact hh1⟩, ⟨?_, fun g hg => by cases hg; exact hh2⟩, ⟨?_, fun g hg => by cases hg; exact hh3⟩, fun g hg e => by cases hg; cases e; exact n12 rfl, fun g hg e => by cases hg; cases e; exact n13 rfl, fun g hg e => by cases hg; cases e; exact n23 rfl⟩
        · have := HO1.out
          rw [← HNL.out, HN1.out] at this
          show wo.ownsRow _ _ _ _ (stN R R.nums.length).length ((stN R R.nums.length).map F32)
          rw [stN_len, HN1.out]
          exact this
        · have := HO2.out
          rw [HN2.out] at this
          show wo.ownsRow _ _ _ _ (stB R R.bnds.length).length ((stB R R.bnds.length).map F32)
          rw [stB_len, HN2.out]
          exact this
        · have := HO3.out
          rw [HV.out] at this
          show wo.ownsRow _ _ _ _ R.gains.length (R.gains.map F32)
          rw [HV.out]
          exact this)
      have hgl := HG.out.lt
      have HKw := Lib.hid (HKc.out.below HB4.out (show w.heap.size < wc.heap.size by omega))
      have d2 := HKw.out.cell 2 rfl
      have q0 := HG.out.cell 0 rfl
      have q1 := HG.out.cell 1 rfl
      have q2 := HG.out.cell 2 rfl
      have q3 := HG.out.cell 3 rfl
      go_wp2_with fail
      refine (l02Give_any _ (scR R) wo HOR.out.rd).mono ?_
      rintro e w9 ⟨rfl, hb9⟩
      have HB9 := Lib.hid (HB4.out.trans (hb9.mono HB4.out.size))
      have HO9 := Lib.hid (HOR.out.up hb9 (Nat.le_refl _))
      have hs9 := hb9.size
      have hs98 := HB9.out.size
      clear hb9 q0 q1 q2 q3 d2 HO1 HO2 HO3
      have hlc := HLc.out.below HB9.out HLc.out.lt
      have e0 := hlc.cell 0 rfl
      have e1' := hlc.cell 1 rfl
      have e2' := hlc.cell 2 rfl
      have e3 := hlc.cell 3 rfl
      have f0 := hlc.free 0
      have f1 := hlc.free 1
      have f2 := hlc.free 2
      have f3 := hlc.free 3
      clear hlc
      have FIN := Lib.hid (show ∀ Wf, Kept (· = w.heap.size + 1) w9 Wf → Below w.heap.size w Wf from fun Wf hk => (HB.out.trans ((HBw.out.trans (HB9.out.mono hsz)).mono HB.out.size)).trans (hk.toBelow (by have := HB.out.size; omega) (by intro k h1 h2; omega)))
      by_cases hv : validR (scR R) = true
      · have HVV := Lib.hid hv
        rw [hv]
        clear hv
        go_wp2_with fail
        refine bodyPost_ret (v := .tuple #[.agg #[.int .i64 V, .slice (some ⟨g1, 0, none⟩) N1 k1, .slice (some ⟨g2, 0, none⟩) i k2, .slice (some ⟨g3, 0, none⟩) V k3], .bool true]) (by simp [results, Try.results27, go_sem, *]) rfl ?_
        have hok : scaleOk R = true := by unfold scaleOk; rw [validR_true HVR.out, HVV.out]; rfl
        suffices hF : ∀ Wf, Kept (· = w.heap.size + 1) w9 Wf → ∃ v', Ending.returned (.tuple #[.agg #[.int .i64 V, .slice (some ⟨g1, 0, none⟩) N1 k1, .slice (some ⟨g2, 0, none⟩) i k2, .slice (some ⟨g3, 0, none⟩) V k3], .bool true]) = .returned (.tuple #[v', .bool OK]) ∧ OwnR w.heap.size Wf.heap.size Wf v' AV ∧ Below w.heap.size w Wf by
          refine hF _ ?_
          repeat' first | with_reducible exact Kept.refl _ _ | refine Kept.setCell ?_ (.inr (by simp)) _
        intro Wf hK
        refine ⟨_, by rw [HOK.out, hok], ?_, FIN.out _ hK⟩
        rw [HAV.out, scaleV, if_pos hok]
        have hz := hK.size
        have hbz := HB.out.size
        exact (HO9.out.kept hK (by intro b h1 h2 h3; omega)).wide (by omega) (by omega)
      · rw [Bool.not_eq_true] at hv
        have HVV := Lib.hid hv
        rw [hv]
        clear hv
        go_wp2_with fail
        refine bodyPost_ret (v := .tuple #[.agg #[.int .i64 0, .slice none 0 0, .slice none 0 0, .slice none 0 0], .bool false]) (by simp [results, Try.results27, go_sem, *]) rfl ?_
        have hok : scaleOk R = false := by unfold scaleOk; rw [HVV.out]; simp
        refine ⟨_, by rw [HOK.out, hok], by rw [HAV.out, scaleV, hok]; exact ownR_zero _ _ _, FIN.out _ ?_⟩
        repeat' first | with_reducible exact Kept.refl _ _ | refine Kept.setCell ?_ (.inr (by simp)) _

end Go.Proofs.Ytkkcgclliomocaa

namespace Go.Proofs.Ytkkcgclliomocaa
open Go.ChangeShapes Go.WideShapes Go.ChangeAt Go.RowKit
set_option linter.unusedVariables false

section
variable {H : Type} {enc : TypeId × Value → H} {w : World} {base : Nat} {spare : Nat → Bool} {held : Bool}

set_option maxRecDepth 100000 in
theorem arg_Rb {r : Reach} {b0 : Nat} {v : Value} {d : DataW H} {p : List MemPlace} (hv : Value.okWide Try.prog w r b0 48 v) (h : DataW.Trod enc Try.prog w base spare held 48 v d p) : ∃ t, RdR w v t ∧ BitsF t.nums := by
  obtain ⟨cs, rfl, hsz⟩ := okWide_struct Try.underlying48 hv
  obtain ⟨fuel, hf⟩ := h
  obtain ⟨va, vb, vc, t, e, h1, h2, _, _⟩ := trod_R hf
  simp only [Value.cells] at e
  obtain ⟨l⟩ := cs
  simp only at e
  subst e
  exact ⟨t, h1, h2⟩
end
end Go.Proofs.Ytkkcgclliomocaa
