/-
  Trees: one looks, by the reference; the two functions.
-/
import Derived.Test.YtkcpncaedocdnaaLook
namespace Go.Proofs.Ytkcpncaedocdnaa
open Go.RowKit

theorem max_any (x y : Int) (w : World) : Calls Try.prog 133 #[.int .i64 x, .int .i64 y] w fun e w' => e = .returned (.int .i64 (max x y)) ∧ w = w' := by
  by_cases h : y < x
  all_goals
    go_enter Try.func133, Try.ntmps133
    go_wp2_with fail
    go_ret
    exact ⟨congrArg (fun z => Ending.returned (Value.int .i64 z)) (by omega), rfl⟩
theorem min_any (x y : Int) (w : World) : Calls Try.prog 134 #[.int .i64 x, .int .i64 y] w fun e w' => e = .returned (.int .i64 (min x y)) ∧ w = w' := by
  by_cases h : x < y
  all_goals
    go_enter Try.func134, Try.ntmps134
    go_wp2_with fail
    go_ret
    exact ⟨congrArg (fun z => Ending.returned (Value.int .i64 z)) (by omega), rfl⟩

set_option maxHeartbeats 4000000 in
set_option maxRecDepth 4000 in
theorem l07Look_any (bb pb : Nat) (hne : bb ≠ pb) (v v' : Value) (t : List Int × List Int) (hv : ValT t) (f : Nat) : ∀ (i : Nat) (ev : Bool) (lo hi : Int) (c0 : Nat) (w : World), i < t.1.length → t.1.length ≤ i + f → c0 + endsT t.1 f i ≤ 1000 →
    Blk w bb 28 #[v, v'] → (∀ w', Kept (· = pb) w w' → RdT w' (.agg #[v, v']) t) → Box w pb 2 (.int .i64 c0) →
    Calls Try.prog 78 #[.pointer (some ⟨bb, 0, none⟩), .int .i64 i, .bool ev, .int .i64 lo, .int .i64 hi, .pointer (some ⟨pb, 0, none⟩)] w fun e w' =>
      e = .returned (.int .i64 (lookT t.1 t.2 f i ev lo hi).1) ∧ Box w' pb 2 (.int .i64 ((c0 + (lookT t.1 t.2 f i ev lo hi).2 : Nat) : Int)) ∧ Kept (· = pb) w w' := by
  induction f with
  | zero => intro i ev lo hi c0 w h1 h2; omega
  | succ f ih =>
    intro i ev lo hi c0 w hi1 hf hcnt hblk h hbox
    have hl64 := hv.2.1
    have hlq := Lib.hid hv.2.2.1
    have h0 := hv.2.2.2.1
    have hgp := Lib.hid hv.goodP
    obtain ⟨p, q⟩ := t
    obtain ⟨g1, g2⟩ := (h w (Kept.refl _ _)).parts
    obtain ⟨a, c, rfl⟩ := g1.shape
    obtain ⟨a', c', rfl⟩ := g2.shape
    have HC := Lib.hid hcnt
    have HLK := Lib.hid (look_le p q (f + 1) i ev lo hi)
    simp only at h hi1 hf hl64 hgp ih hlq h0 HC ⊢
    have HP := Lib.hid h
    have HIH := Lib.hid ih
    have HBX := Lib.hid hbox
    have HK := Lib.hid hblk
    have H00 := Lib.hid h0
    clear h ih hv g1 g2 hblk hbox h0 hcnt
    go_enter Try.func78, Try.ntmps78
    go_wp2_with fail
    refine (l07Children_any bb _ _ (p, q) i w HK.out (HP.out w (Kept.refl _ _)) hl64 H00.out).mono ?_
    rintro e w1 ⟨v1, rfl, ho1, hb1⟩
    simp only at ho1
    obtain ⟨a1, c1, rfl⟩ := ho1.rd.shape
    have HK1 := Lib.hid (HK.out.below hb1 HK.out.lt)
    have HKP1 := Lib.hid (Kept.of_below (S := (· = pb)) hb1 (Nat.le_refl _))
    have HBX1 := Lib.hid (HBX.out.below hb1 HBX.out.lt)
    have hpl := HBX.out.lt
    have HO1 := Lib.hid ho1
    clear hb1 ho1
    rw [kidsI_full_len] at *
    have hkl : (kids p i).length ≤ 64 := Nat.le_trans (kidsTo_len p i p.length) hl64
    by_cases hkn : kids p i = []
    · have HW := Lib.hid (lookT_none p q (f + 1) i ev lo hi hkn)
      have hl0 : (((kids p i).length : Int) == 0) = true := by rw [hkn]; rfl
      have hc0 : c0 ≤ 1000 := by have := HC.out; omega
      have hc := HBX1.out.cell
      have hfr := HBX1.out.free
      clear hkn
      go_upto_region 4 with fail
      refine wp_at fun w2 hW => ?_
      have HBX2 := Lib.hid (show Box w2 pb 2 (.int .i64 ((c0 + 1 : Nat) : Int)) by subst hW; simpa using HBX1.out.set (.int .i64 ((c0 + 1 : Nat) : Int)))
      have HKP2 := Lib.hid (show Kept (· = pb) w w2 by subst hW; exact HKP1.out.setCell (.inr rfl) _)
      have HK2 := Lib.hid (HK.out.kept HKP2.out hne)
      clear hW hc hfr
      have t1 : w2.cell? ⟨bb, 1, none⟩ = some (.slice a' q.length c') := HK2.out.cell 1 rfl
      have hiq : i < q.length := by have := hlq.out; omega
      obtain ⟨qb, qo, rfl, _, hc⟩ := ((HP.out w2 HKP2.out).parts.2).at (i := i) hiq
      simp only at hc
      obtain ⟨x, hx⟩ : ∃ x, x = q.getD i 0 := ⟨_, rfl⟩
      rw [← hx] at hc
      have HX := Lib.hid hx
      clear hx
      go_wp2_with fail
      go_ret
      exact ⟨by rw [HW.out, ← HX.out]; rfl, by rw [HW.out]; exact HBX2.out, HKP2.out⟩
    · have hl0 : (((kids p i).length : Int) == 0) = false := by
        have : (kids p i).length ≠ 0 := fun h => hkn (List.length_eq_zero_iff.1 h)
        rw [beq_eq_false_iff_ne]; omega
      have HW := Lib.hid (lookT_some p q f i ev lo hi hkn)
      clear hkn
      go_wp2_with fail
      go_loopw [3, 4, 14] (fun l h kk wr => ∃ j : Nat, kk = .int .i64 j ∧ j ≤ (kids p i).length ∧ l = .int .i64 (lookPart p q f i ev lo hi j).1 ∧ h = .int .i64 (lookPart p q f i ev lo hi j).2.1 ∧ Box wr pb 2 (.int .i64 ((c0 + (lookPart p q f i ev lo hi j).2.2 : Nat) : Int)) ∧ Kept (· = pb) w1 wr) (fun _ _ kk _ => (kids p i).length - (intOf kk).toNat)
      case atStart => exact ⟨0, rfl, Nat.zero_le _, rfl, rfl, HBX1.out, Kept.refl _ _⟩
      case round =>
        obtain ⟨j, rfl, hj, rfl, rfl, hbx, hkp⟩ := hrel
        have HKr := Lib.hid (HK1.out.kept hkp hne)
        have HKP := Lib.hid (HKP1.out.trans hkp)
        have HKR := Lib.hid hkp
        have HBXr := Lib.hid hbx
        have HOr := Lib.hid (HO1.out.kept hkp (by intro b h1 h2 h3; omega))
        clear hkp hbx
        have HEND := Lib.hid (lookPart_end p q f i ev lo hi j hj)
        by_cases hlt : j < (kids p i).length
        · obtain ⟨kb, ko, rfl, _, hc⟩ := HOr.out.rd.at (i := j) (by rw [kidsI_full_len]; exact hlt)
          rw [kidsI_at hlt] at hc
          have HS := Lib.hid (lookPart_succ p q f i ev lo hi j hlt)
          have hroom := look_room p q f i ev lo hi j hlt
          obtain ⟨kj, hkj⟩ : ∃ k, k = (kids p i).getD j 0 := ⟨_, rfl⟩
          rw [← hkj] at hc HS hroom
          have hg := kid_gt hgp.out (kid_mem (P := p) (i := i) hlt)
          rw [← hkj] at hg
          obtain ⟨hg1, hg2⟩ := hg
          clear hkj
          obtain ⟨L, M, C, hL⟩ : ∃ L M C, lookPart p q f i ev lo hi j = (L, M, C) := ⟨_, _, _, rfl⟩
          rw [hL] at HS HEND hroom HBXr ⊢
          simp only at HS HEND hroom HBXr ⊢
          have HL := Lib.hid hL
          clear hL
          have HROOM := Lib.hid hroom
          clear hroom
          by_cases hlm : L < M
          · rw [if_pos hlm] at HS
            go_wp2_with fail
            refine (HIH.out kj (!ev) L M (c0 + C) wr hg2 (by omega) (by have := HC.out; have := HROOM.out; omega) HKr.out (fun w' hw => HP.out w' (HKP.out.trans hw)) HBXr.out).mono ?_
            rintro e w3 ⟨rfl, hbx3, hkp3⟩
            have HKR3 := Lib.hid (HKR.out.trans hkp3)
            have HBX3 := Lib.hid hbx3
            clear hkp3 hbx3 hc
            obtain ⟨x, n, hx⟩ : ∃ x n, lookT p q f kj (!ev) L M = (x, n) := ⟨_, _, rfl⟩
            rw [hx] at HS HBX3 ⊢
            simp only at HS HBX3 ⊢
            clear hx
            cases ev
            case false =>
              go_wp2_with (go_at_call 134; refine (min_any _ _ _).mono ?_; rintro e w' ⟨rfl, rfl⟩)
              go_roundw
              case rel => exact ⟨j + 1, by go_num, by omega, by rw [HS.out]; rfl, by rw [HS.out]; rfl, by rw [HS.out]; simp only [Bool.false_eq_true, if_false]; rw [← Nat.add_assoc]; exact HBX3.out, HKR3.out⟩
              case measure => simp [intOf]; omega
            case true =>
              go_wp2_with (go_at_call 133; refine (max_any _ _ _).mono ?_; rintro e w' ⟨rfl, rfl⟩)
              go_roundw
              case rel => exact ⟨j + 1, by go_num, by omega, by rw [HS.out]; rfl, by rw [HS.out]; rfl, by rw [HS.out]; simp only [if_true]; rw [← Nat.add_assoc]; exact HBX3.out, HKR3.out⟩
              case measure => simp [intOf]; omega
          · cases ev
            all_goals
              go_wp2_with fail
              go_ret
              exact ⟨by rw [HW.out, HEND.out hlm]; rfl, by rw [HW.out, HEND.out hlm]; exact HBXr.out, HKP.out⟩
        · obtain rfl : j = (kids p i).length := by omega
          cases ev
          all_goals
            go_wp2_with fail
            go_ret
            exact ⟨by rw [HW.out]; rfl, by rw [HW.out]; exact HBXr.out, HKP.out⟩

open Classical in
/-- What is returned. -/
noncomputable def looksW (t : List Int × List Int) : Int := if validT t = true then (lookT t.1 t.2 t.1.length 0 true (-2000000) 2000000).1 else 0
open Classical in
noncomputable def looksN (t : List Int × List Int) : Int := if validT t = true then ((lookT t.1 t.2 t.1.length 0 true (-2000000) 2000000).2 : Nat) else 0

set_option maxHeartbeats 4000000 in
theorem implLooks_any (v : Value) (t : List Int × List Int) (w : World) (h : RdT w v t) :
    Calls Try.prog 25 #[v] w fun e w' => e = .returned (.tuple #[.int .i64 (looksW t), .int .i64 (looksN t), .bool (validT t)]) ∧ Below w.heap.size w w' := by
  obtain ⟨p, q⟩ := t
  obtain ⟨a, c, a', c', rfl⟩ := h.shape
  simp only at h ⊢
  have HP := Lib.hid h
  clear h
  go_enter Try.func25, Try.ntmps25
  go_wp2_with fail
  refine Calls.at fun W hW => ?_
  have hb := Lib.hid (show Below w.heap.size w W by subst hW; (repeat' first | exact Below.refl _ _ | assumption | refine Below.alloc ?_ ?_ _ | refine Below.setCell ?_ ?_ _ | refine Below.drew ?_ | (simp; done) | (simp; omega)))
  have hk := Lib.hid (show Blk W w.heap.size 28 #[.slice a p.length c, .slice a' q.length c'] by subst hW; exact Blk.new _ _ _)
  clear hW
  refine (implValidTree_o _ (p, q) W (HP.out.up hb.out (Nat.le_refl _))).mono ?_
  rintro e w1 ⟨rfl, hb1⟩
  have HB1 := Lib.hid (hb.out.trans (hb1.mono hb.out.size))
  have HK1 := Lib.hid (hk.out.below hb1 hk.out.lt)
  clear hb1 hb hk
  by_cases hv : validT (p, q) = true
  · have HV := Lib.hid (validT_iff.1 hv)
    have HLW := Lib.hid (show looksW (p, q) = _ from if_pos hv)
    have HLN := Lib.hid (show looksN (p, q) = _ from if_pos hv)
    have hl1 := HV.out.1
    simp only at HLW HLN hl1
    rw [hv]
    have HVV := Lib.hid hv
    have t0 : w1.cell? ⟨w.heap.size, 0, none⟩ = some (.slice a p.length c) := HK1.out.cell 0 rfl
    have t1 : w1.cell? ⟨w.heap.size, 1, none⟩ = some (.slice a' q.length c') := HK1.out.cell 1 rfl
    clear hv
    go_wp2_with fail
    refine (look_any (p, q) HV.out p.length 0 true (-2000000) 2000000 _ w1 (by simp only; omega) (by simp only; omega) (HP.out.up HB1.out (Nat.le_refl _))).mono ?_
    rintro e w2 ⟨rfl, hb2⟩
    simp only
    obtain ⟨x, n, hx⟩ : ∃ x n, lookT p q p.length 0 true (-2000000) 2000000 = (x, n) := ⟨_, _, rfl⟩
    rw [hx] at HLW HLN ⊢
    have HB2 := Lib.hid (HB1.out.trans (hb2.mono HB1.out.size))
    clear hb2 hx
    go_wp2_with fail
    go_ret3
    exact ⟨by rw [HVV.out, HLW.out, HLN.out]; rfl, HB2.out⟩
  · rw [Bool.not_eq_true] at hv
    have HLW := Lib.hid (show looksW (p, q) = 0 from if_neg (by rw [hv]; simp))
    have HLN := Lib.hid (show looksN (p, q) = 0 from if_neg (by rw [hv]; simp))
    rw [hv]
    have HVV := Lib.hid hv
    clear hv
    go_wp2_with fail
    go_ret3
    exact ⟨by rw [HVV.out, HLW.out, HLN.out]; rfl, HB1.out⟩

set_option maxHeartbeats 4000000 in
theorem specLooks_any (v : Value) (t : List Int × List Int) (w : World) (h : RdT w v t) :
    Calls Try.prog 24 #[v] w fun e w' => e = .returned (.tuple #[.int .i64 (looksW t), .int .i64 (looksN t), .bool (validT t)]) ∧ Below w.heap.size w w' := by
  obtain ⟨p, q⟩ := t
  obtain ⟨a, c, a', c', rfl⟩ := h.shape
  simp only at h ⊢
  have HP := Lib.hid h
  clear h
  go_enter Try.func24, Try.ntmps24
  go_wp2_with fail
  refine Calls.at fun w1 hW => ?_
  have HB1 := Lib.hid (show Below w.heap.size w w1 by subst hW; (repeat' first | exact Below.refl _ _ | assumption | refine Below.alloc ?_ ?_ _ | refine Below.setCell ?_ ?_ _ | refine Below.drew ?_ | (simp; done) | (simp; omega)))
  have HK1 := Lib.hid (show Blk w1 w.heap.size 28 #[.slice a p.length c, .slice a' q.length c'] by subst hW; exact Blk.new _ _ _)
  clear hW
  refine (l07Tree_any w.heap.size _ _ (p, q) w1 HK1.out (HP.out.up HB1.out (Nat.le_refl _))).mono ?_
  rintro e w' ⟨rfl, rfl⟩
  by_cases hv : validT (p, q) = true
  · have HV := Lib.hid (validT_iff.1 hv)
    have HLW := Lib.hid (show looksW (p, q) = _ from if_pos hv)
    have HLN := Lib.hid (show looksN (p, q) = _ from if_pos hv)
    have hl1 := HV.out.1
    simp only at HLW HLN hl1
    rw [hv]
    have HVV := Lib.hid hv
    clear hv
    go_wp2_with fail
    refine Calls.at fun w2 hW => ?_
    have HB2 := Lib.hid (show Below w1.heap.size w1 w2 by subst hW; (repeat' first | exact Below.refl _ _ | assumption | refine Below.alloc ?_ ?_ _ | refine Below.setCell ?_ ?_ _ | refine Below.drew ?_ | (simp; done) | (simp; omega)))
    have HX2 := Lib.hid (show Box w2 w1.heap.size 2 (.int .i64 ((0 : Nat) : Int)) by subst hW; exact Box.new _ _ _)
    clear hW
    have HK2 := Lib.hid (HK1.out.below HB2.out HK1.out.lt)
    have hlt := HK1.out.lt
    refine (l07Look_any w.heap.size w1.heap.size (by omega) _ _ (p, q) HV.out p.length 0 true (-2000000) 2000000 0 w2 (by simp only; omega) (by simp only; omega) (by have := endsT_64 HV.out p.length 0 (by simp only; omega) (by simp only; omega); simp only at this ⊢; omega) HK2.out
      (fun w' hw => HP.out.up (HB1.out.trans ((HB2.out.mono HB1.out.size).trans (hw.toBelow (by have := HB1.out.size; have := HB2.out.size; omega) (by intro k h1 h2; omega)))) (Nat.le_refl _)) HX2.out).mono ?_
    rintro e w3 ⟨rfl, hbx3, hkp3⟩
    have HB3 := Lib.hid (HB1.out.trans ((HB2.out.mono HB1.out.size).trans (hkp3.toBelow (by have := HB1.out.size; have := HB2.out.size; omega) (by intro k h1 h2; omega))))
    simp only [Nat.zero_add] at hbx3 ⊢
    obtain ⟨x, n, hx⟩ : ∃ x n, lookT p q p.length 0 true (-2000000) 2000000 = (x, n) := ⟨_, _, rfl⟩
    rw [hx] at HLW HLN hbx3 ⊢
    have hc := hbx3.cell
    clear hx hbx3 hkp3
    go_wp2_with fail
    go_quiet (fail)
    go_wp2_with fail
    go_ret3
    exact ⟨by rw [HVV.out, HLW.out, HLN.out]; rfl, below_drewN HB3.out _⟩
  · rw [Bool.not_eq_true] at hv
    have HLW := Lib.hid (show looksW (p, q) = 0 from if_neg (by rw [hv]; simp))
    have HLN := Lib.hid (show looksN (p, q) = 0 from if_neg (by rw [hv]; simp))
    rw [hv]
    have HVV := Lib.hid hv
    clear hv
    go_wp2_with fail
    go_ret3
    exact ⟨by rw [HVV.out, HLW.out, HLN.out]; rfl, HB1.out⟩

end Go.Proofs.Ytkcpncaedocdnaa
