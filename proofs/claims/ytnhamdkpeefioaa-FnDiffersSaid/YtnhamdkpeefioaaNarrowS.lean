/-
  Narrow domains: by the reference.
-/
import Derived.Test.YtnhamdkpeefioaaNarrow
namespace Go.Proofs.Ytnhamdkpeefioaa
open Go.RowKit

set_option maxHeartbeats 4000000 in
set_option maxRecDepth 4000 in
theorem specNarrow_any (v : Value) (D : List (List Int)) (w : World) (h : RdL w v D) :
    Calls Try.prog 15 #[v] w fun e w' => ∃ v', e = .returned (.tuple #[v', .bool (nrOk D)]) ∧ OwnL w.heap.size w'.heap.size w' v' (nrL D) ∧ Below w.heap.size w w' := by
  have H := Lib.hid (l07Domains_any v D w h)
  obtain ⟨a, c, rfl⟩ := h.shape
  have HRD := Lib.hid h
  clear h
  go_enter Try.func15, Try.ntmps15
  go_wp2_with fail
  refine H.out.mono ?_
  rintro e w1 ⟨rfl, hb⟩
  have HB := Lib.hid hb
  clear hb H
  by_cases hv : validD D = true
  case neg =>
    rw [Bool.not_eq_true] at hv
    have HVV := Lib.hid hv
    rw [hv]
    clear hv
    go_wp2_with fail
    go_ret2
    exact ⟨_, by rw [nrOk_no HVV.out]; rfl, by rw [nrL_no (nrOk_no HVV.out)]; exact ownL_nil _ _ _, HB.out⟩
  have HV := Lib.hid (validD_iff.1 hv)
  have HVV := Lib.hid hv
  have hl := allC_lenN HV.out
  have hD6 := HV.out.2.1
  have hD1 := HV.out.1
  rw [hv]
  clear hv
  go_wp2_with fail
  refine (l07All_any _ D HV.out w1 (HRD.out.up HB.out (Nat.le_refl _))).mono ?_
  rintro e w2 ⟨fv, sv, B0, lo, hi, rfl, hB0, hfi, hlo, hmk, hbl⟩
  obtain ⟨ob, oc, rfl⟩ := hmk.shape
  have HB2 := Lib.hid (HB.out.trans (hbl.mono HB.out.size))
  have HMK := Lib.hid hmk
  clear hbl hmk hfi
  by_cases hall : allC D = []
  · have HA := Lib.hid hall
    have h0 : (allC D).length = 0 := by rw [hall]; rfl
    rw [h0]
    clear hall h0
    go_wp2_with fail
    go_ret2
    exact ⟨_, by rw [nrOk_none HA.out]; rfl, by rw [nrL_no (nrOk_none HA.out)]; exact ownL_nil _ _ _, HB2.out⟩
  have HA := Lib.hid hall
  have h0 : (allC D).length ≠ 0 := fun h => hall (List.length_eq_zero_iff.1 h)
  obtain ⟨C, hC⟩ : ∃ C, C = (allC D).length := ⟨_, rfl⟩
  rw [← hC] at h0 hl ⊢
  have t0 : ((C : Int) == 0) = false := by simp; omega
  clear hall hC h0
  go_upto_region 7 with fail
  refine wp_at fun W hW => ?_
  have HO0 := Lib.hid (show W.ownsRow w2.heap.size 32 1 (.slice (some ⟨w2.heap.size, 0, none⟩) 0 0) 0 [] by subst hW; exact World.ownsRow_lit (base := w2.heap.size) (e := 32) (size := 1) w2 #[] 0 (Nat.le_refl _) (by simp [maxLen]) rfl)
  have hbW : Below w2.heap.size w2 W := by subst hW; (repeat' first | exact Below.refl _ _ | assumption | refine Below.alloc ?_ ?_ _ | refine Below.setCell ?_ ?_ _ | refine Below.drew ?_ | (simp; done) | (simp; omega))
  have HBW := Lib.hid hbW
  clear hW hbW t0
  have hsz2 := HB2.out.size
  go_wp2_with fail
  go_loopw [7, 25] (fun ov i wr => ∃ (k : Nat) (vs : List Value) (oa : Option Addr) (oc : Nat), i = .int .i64 k ∧ k ≤ D.length ∧ ov = .slice oa k oc ∧ wr.ownsRow w2.heap.size 32 1 (.slice oa k oc) k vs ∧ OwnEach w2.heap.size wr.heap.size wr vs ((nrAll D).take k) ∧ Below w2.heap.size w2 wr) (fun _ i _ => D.length - (intOf i).toNat)
  case atStart => exact ⟨0, [], _, 0, rfl, Nat.zero_le _, rfl, HO0.out, ⟨rfl, by intro i u zs h; simp at h, by intro i j u u' g _ h; simp at h⟩, HBW.out⟩
  case round =>
    obtain ⟨k, vs, oa, oc2, rfl, hk, rfl, hown, heach, hbl⟩ := hrel
    have HO := Lib.hid hown
    have HE := Lib.hid heach
    have HB1 := Lib.hid hbl
    clear hown heach hbl
    have hs3 := HB1.out.size
    by_cases hlt : k < D.length
    · obtain ⟨db, dof, u, rfl, hdb, hc0, hu⟩ := (HRD.out.up (HB2.out.trans (HB1.out.mono hsz2)) (Nat.le_refl _)).at hlt
      have hd8 := (HV.out.2.2 k hlt).2.1
      have HTK := Lib.hid (nrAll_take D k hlt)
      have HNP := Lib.hid (nrPart_succ D k)
      have HNA := Lib.hid (nrPart_all D k)
      have HMC := Lib.hid (markL_col D k)
      obtain ⟨d, hd⟩ : ∃ d, d = D.getD k [] := ⟨_, rfl⟩
      rw [← hd] at hu hd8 HNP HNA HMC
      obtain ⟨ua, uc, rfl⟩ := hu.shape
      have HU := Lib.hid hu
      have HDD := Lib.hid hd
      have HC0 := Lib.hid hc0
      clear hu hd
      obtain ⟨wo, rfl⟩ : ∃ wo : World, wo = wr := ⟨_, rfl⟩
      go_upto_region 11 with fail
      refine wp_at fun W3 hW3 => ?_
      have hb3 : Below wo.heap.size wo W3 := by subst hW3; (repeat' first | exact Below.refl _ _ | assumption | refine Below.alloc ?_ ?_ _ | refine Below.setCell ?_ ?_ _ | refine Below.drew ?_ | (simp; done) | (simp; omega))
      have HDE := Lib.hid (show W3.ownsRow wo.heap.size 2 1 (.slice (some ⟨wo.heap.size, 0, none⟩) 0 0) 0 (([] : List Int).map I64) by subst hW3; exact owns_empty wo)
      have HB3 := Lib.hid hb3
      clear hW3 hb3 hc0
      have hc0 := held_of HB3.out HC0.out (Nat.le_refl _)
      go_wp2_with fail
      clear hc0
      go_loopw [9, 34] (fun dv kk wi => ∃ (j : Nat) (b : Option Addr) (cap : Nat), kk = .int .i64 j ∧ j ≤ d.length ∧ dv = .slice b (nrPart D k j).length cap ∧ wi.ownsRow wo.heap.size 2 1 (.slice b (nrPart D k j).length cap) (nrPart D k j).length ((nrPart D k j).map I64) ∧ Below wo.heap.size wo wi) (fun _ kk _ => d.length - (intOf kk).toNat)
      case atStart => exact ⟨0, _, 0, rfl, Nat.zero_le _, rfl, HDE.out, HB3.out⟩
      case round =>
        obtain ⟨j, b, cap, rfl, hj, rfl, hown, hbl⟩ := hrel
        have HOI := Lib.hid hown
        have HBI := Lib.hid hbl
        have hlen := nrPart_len D k j
        clear hown hbl
        have hsi := HBI.out.size
        by_cases hjl : j < d.length
        · have HNJ := Lib.hid (HNP.out j hjl)
          have hc0 := held_of HBI.out HC0.out (Nat.le_refl _)
          obtain ⟨ub, uo, rfl, _, hcu⟩ := (HU.out.up HBI.out (Nat.le_refl _)).at (i := j) hjl
          obtain ⟨g, gc, m1, m2, _⟩ := ((HMK.out.up HB1.out (Nat.le_refl _)).up HBI.out (Nat.le_refl _)).at (i := k) (k := j) hlt (by rw [← HDD.out]; exact hjl)
          rw [← HDD.out] at m1
          rw [HMC.out j] at m2
          obtain ⟨x, hx⟩ : ∃ x, x = d.getD j 0 := ⟨_, rfl⟩
          rw [← hx] at hcu m2 HNJ
          obtain ⟨ys, hys⟩ : ∃ ys, ys = nrPart D k j := ⟨_, rfl⟩
          rw [← hys] at HOI HNJ hlen ⊢
          clear hx hys
          have k1 : (j : Int) < (d.length : Int) := by omega
          by_cases hcol : colB (allC D) k x = true
          · rw [hcol] at m2
            rw [if_pos hcol] at HNJ
            clear hcol
            go_wp2_with (at_builtin; refine app_ints rfl _ _ rfl wo.heap.size (.slice b ys.length cap) ys.length ys rfl (HOI.out.alloc _) _ [x] rfl (slc_one _ _) (ys.length + 1) (ys ++ [x]) (by simp) rfl (by omega) (by simp; omega) ?_; intro b2 cap2 w3 hown2 hbl2 _ _)
            go_roundw
            case rel => exact ⟨j + 1, b2, cap2, by go_num, by omega, by rw [HNJ.out, List.length_append]; rfl, by rw [HNJ.out, List.length_append]; exact hown2, HBI.out.trans (((Below.refl _ _).alloc (by omega) _).trans hbl2)⟩
            case measure => simp [intOf]; omega
          · rw [if_neg hcol, List.append_nil] at HNJ
            rw [Bool.not_eq_true] at hcol
            rw [hcol] at m2
            clear hcol
            go_wp2_with fail
            go_roundw
            case rel => exact ⟨j + 1, b, cap, by go_num, by omega, by rw [HNJ.out], by rw [HNJ.out]; exact HOI.out, HBI.out⟩
            case measure => simp [intOf]; omega
        · obtain rfl : j = d.length := by omega
          rw [HNA.out] at HOI hlen ⊢
          have hal := (Below.refl wr.heap.size wr).alloc (Nat.le_refl _) (.cells #[.slice b (nrRow D k).length cap] 32)
          have HUU := Lib.hid ((OwnI.mk HOI.out).up hal (Nat.le_refl _))
          have HO5 := Lib.hid (owns_below (owns_below HO.out HBI.out (Nat.le_refl _)) hal (Nat.le_refl _))
          have HE5 := Lib.hid ((HE.out.up HBI.out (Nat.le_refl _)).up hal (Nat.le_refl _))
          have HB5 := Lib.hid (HB1.out.trans ((HBI.out.mono hs3).trans (hal.mono (by omega))))
          clear hal
          go_wp2_with (at_builtin; refine app_list rfl _ _ rfl w2.heap.size (.slice oa k oc2) k vs rfl HO5.out _ b (nrRow D k).length cap rfl (slc_list wr _ _ rfl) (by omega) (by simp; omega) ?_; intro oa2 oc3 w6 hown6 hbl6 hg6)
          go_roundw
          case rel =>
            refine ⟨k + 1, vs ++ [.slice b (nrRow D k).length cap], oa2, oc3, by go_num, by omega, rfl, hown6, ?_, HB5.out.trans hbl6⟩
            rw [HTK.out]
            exact OwnEach.snoc HO5.out HE5.out HUU.out (Nat.le_refl _) (by omega) (by simp) (by simp; omega) hg6
          case measure => simp [intOf]; omega
    · obtain rfl : k = D.length := by omega
      go_wp2_with fail
      go_ret2
      have hok := nrOk_yes HVV.out HA.out
      refine ⟨_, by rw [hok]; rfl, ?_, HB2.out.trans (HB1.out.mono hsz2)⟩
      rw [nrL_yes hok]
      have he := HE.out
      rw [List.take_of_length_le (by rw [nrAll_len]; exact Nat.le_refl _)] at he
      refine OwnL.wide (lo := w2.heap.size) (hi := wr.heap.size) ⟨vs, ?_, fun g hg => (owns_lt HO.out hg).2, he⟩ hsz2 (Nat.le_refl _)
      have h1 := HO.out
      rw [nrAll_len]; exact h1

theorem lsum_le (M : Nat) : ∀ (l : List (List Int)), (∀ z ∈ l, z.length ≤ M) → lsum l ≤ l.length * M
  | [], _ => by simp [lsum]
  | z :: r, h => by
    have h1 := h z (by simp)
    have h2 := lsum_le M r (fun z hz => h z (by simp [hz]))
    simp only [lsum, List.length_cons, Nat.succ_mul]; omega
theorem nrL_cnt (D : List (List Int)) : cntL (nrL D) ≤ 1048576 := by
  unfold nrL cntL
  split
  · next h =>
    have hv : validD D = true := by
      unfold nrOk at h
      simp only [Bool.and_eq_true] at h
      exact h.1
    have hV := validD_iff.1 hv
    have h1 := lsum_le 8 (nrAll D) (fun z hz => by
      unfold nrAll at hz
      obtain ⟨i, hi, rfl⟩ := List.mem_map.1 hz
      have h2 := (hV.2.2 i (List.mem_range.1 hi)).2.1
      exact Nat.le_trans (List.length_filter_le _ _) h2)
    rw [nrAll_len] at h1
    have := hV.2.1
    omega
  · simp [lsum]

end Go.Proofs.Ytnhamdkpeefioaa
