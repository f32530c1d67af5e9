/-
  Trees: the worth of an index, by the program and by the reference.
-/
import Derived.Test.YtkcpncaedocdnaaKids
import Derived.Deep.RegionHeld3
namespace Go.Proofs.Ytkcpncaedocdnaa
open Go.RowKit

theorem kidsI_full (P : List Int) (i : Nat) : kidsI P i P.length = (kids P i).map fun (k : Nat) => (k : Int) := rfl
theorem kidsI_full_len (P : List Int) (i : Nat) : (kidsI P i P.length).length = (kids P i).length := by simp [kidsI_full]
theorem kidsI_at {P : List Int} {i j : Nat} (h : j < (kids P i).length) : (kidsI P i P.length).getD j 0 = (((kids P i).getD j 0 : Nat) : Int) := by
  simp [kidsI_full, h]
theorem kid_mem {P : List Int} {i j : Nat} (h : j < (kids P i).length) : (kids P i).getD j 0 ∈ kids P i := by
  have : (kids P i).getD j 0 = (kids P i)[j] := by simp [h]
  rw [this]; exact List.getElem_mem h

set_option maxHeartbeats 4000000 in
set_option maxRecDepth 4000 in
theorem worth_any (t : List Int × List Int) (hv : ValT t) (f : Nat) : ∀ (i : Nat) (ev : Bool) (v : Value) (w : World), i < t.1.length → t.1.length ≤ i + f → RdT w v t →
    Calls Try.prog 91 #[v, .int .i64 i, .bool ev] w fun e w' => e = .returned (.int .i64 (worthT t.1 t.2 f i ev)) ∧ Below w.heap.size w w' := by
  induction f with
  | zero => intro i ev v w h1 h2; omega
  | succ f ih =>
    intro i ev v w hi hf h
    have hl64 := hv.2.1
    have hlq := Lib.hid hv.2.2.1
    have hgp := Lib.hid hv.goodP
    obtain ⟨p, q⟩ := t
    obtain ⟨a, c, a', c', rfl⟩ := h.shape
    simp only at h hi hf hl64 hgp ih ⊢
    have HP := Lib.hid h
    have HIH := Lib.hid ih
    clear h ih hv
    go_enter Try.func91, Try.ntmps91
    go_wp2_with fail
    refine Calls.at fun W hW => ?_
    have hb := Lib.hid (show Below w.heap.size w W by subst hW; (repeat' first | exact Below.refl _ _ | assumption | refine Below.alloc ?_ ?_ _ | refine Below.setCell ?_ ?_ _ | refine Below.drew ?_ | (simp; done) | (simp; omega)))
    have hk := Lib.hid (show Blk W w.heap.size 28 #[.slice a p.length c, .slice a' q.length c'] by subst hW; exact Blk.new _ _ _)
    clear hW
    refine (children_any _ (p, q) i W (HP.out.up hb.out (Nat.le_refl _)) hl64).mono ?_
    rintro e w1 ⟨v1, rfl, ho1, hb1⟩
    simp only at ho1
    obtain ⟨a1, c1, rfl⟩ := ho1.rd.shape
    have HB1 := Lib.hid (hb.out.trans (hb1.mono hb.out.size))
    have HK1 := Lib.hid (hk.out.below hb1 hk.out.lt)
    have HO1 := Lib.hid ho1.rd
    clear hb1 hb hk ho1
    rw [kidsI_full_len] at *
    have hkl : (kids p i).length ≤ 64 := Nat.le_trans (kidsTo_len p i p.length) hl64
    by_cases hkn : kids p i = []
    · have HW := Lib.hid (worthT_none p q (f + 1) i ev hkn)
      have hl0 : (((kids p i).length : Int) == 0) = true := by rw [hkn]; rfl
      have t1 : w1.cell? ⟨w.heap.size, 1, none⟩ = some (.slice a' q.length c') := HK1.out.cell 1 rfl
      obtain ⟨qb, qo, rfl, _, hc⟩ := ((HP.out.up HB1.out (Nat.le_refl _)).parts.2).at (i := i) (by have := hlq.out; simp only at this ⊢; omega)
      simp only at hc
      have hiq : i < q.length := by have := hlq.out; omega
      obtain ⟨x, hx⟩ : ∃ x, x = q.getD i 0 := ⟨_, rfl⟩
      rw [← hx] at hc
      have HX := Lib.hid hx
      clear hx hkn
      go_wp2_with fail
      go_ret
      exact ⟨by rw [HW.out, ← HX.out]; rfl, HB1.out⟩
    · have hlk : 0 < (kids p i).length := by
        rcases Nat.eq_zero_or_pos (kids p i).length with h | h
        · exact absurd (List.length_eq_zero_iff.1 h) hkn
        · exact h
      have hl0 : (((kids p i).length : Int) == 0) = false := by rw [beq_eq_false_iff_ne]; omega
      have HW := Lib.hid (worthT_some p q f i ev hkn)
      have HKN := Lib.hid hkn
      clear hkn
      have t0 : w1.cell? ⟨w.heap.size, 0, none⟩ = some (.slice a p.length c) := HK1.out.cell 0 rfl
      have t1 : w1.cell? ⟨w.heap.size, 1, none⟩ = some (.slice a' q.length c') := HK1.out.cell 1 rfl
      obtain ⟨kb, ko, rfl, _, hc⟩ := HO1.out.at (i := 0) (by rw [kidsI_full_len]; exact hlk)
      rw [kidsI_at hlk, Nat.add_zero] at hc
      obtain ⟨k0, hk0⟩ : ∃ k, k = (kids p i).getD 0 0 := ⟨_, rfl⟩
      rw [← hk0] at hc
      have HK0 := Lib.hid hk0
      have hkg := kid_gt hgp.out (kid_mem (P := p) (i := i) hlk)
      rw [← hk0] at hkg
      obtain ⟨hkg1, hkg2⟩ := hkg
      clear hk0
      cases ev
      case false =>
        go_wp2_with fail
        go_region_held3 (fun w' => w'.cell? ⟨w.heap.size, 0, none⟩ = some (.slice a p.length c) ∧ w'.cell? ⟨w.heap.size, 1, none⟩ = some (.slice a' q.length c') ∧ w'.cell? ⟨kb, ko, none⟩ = some (.int .i64 k0) ∧ Below w1.heap.size w1 w')
          (first | exact ⟨held_of hbn t0 (Nat.le_refl _), held_of hbn t1 (Nat.le_refl _), held_of hbn hc (Nat.le_refl _), hbn⟩ | exact ⟨t0, t1, hc, (Below.refl _ _).drew⟩)
          (first | (go_at_call 91; have hh := (‹_ ∧ _ ∧ _ ∧ Below w1.heap.size w1 _›).2.2.2; refine (HIH.out k0 true _ _ hkg2 (by omega) ((HP.out.up HB1.out (Nat.le_refl _)).up hh (Nat.le_refl _))).mono ?_; rintro e w2 ⟨rfl, hb2⟩; have hbn := hh.trans (hb2.mono hh.size)))
        have HBN := Lib.hid hbn
        have H0 := Lib.hid (show worthPart p q f i false 0 = worthT p q f k0 true by rw [HK0.out]; rfl)
        clear hb2 hh hbn t0 t1 hc
        rw [← H0.out]
        go_wp2_with fail
        go_loopw [8, 31] (fun b kk wr => ∃ j : Nat, kk = .int .i64 j ∧ j ≤ (kids p i).length ∧ b = .int .i64 (worthPart p q f i false j) ∧ Below w1.heap.size w1 wr) (fun _ kk _ => (kids p i).length - (intOf kk).toNat)
        case atStart => exact ⟨0, rfl, Nat.zero_le _, rfl, HBN.out⟩
        case round =>
          obtain ⟨j, rfl, hj, rfl, hbl⟩ := hrel
          have HK := Lib.hid (HK1.out.below hbl HK1.out.lt)
          have HB := Lib.hid hbl
          clear hbl
          by_cases hlt : j < (kids p i).length
          · have t0 : wr.cell? ⟨w.heap.size, 0, none⟩ = some (.slice a p.length c) := HK.out.cell 0 rfl
            have t1 : wr.cell? ⟨w.heap.size, 1, none⟩ = some (.slice a' q.length c') := HK.out.cell 1 rfl
            obtain ⟨_, _, e, _, hc⟩ := (HO1.out.up HB.out (Nat.le_refl _)).at (i := j) (by rw [kidsI_full_len]; exact hlt)
            simp only [Option.some.injEq, Addr.mk.injEq, and_true] at e
            obtain ⟨rfl, rfl⟩ := e
            rw [kidsI_at hlt] at hc
            have HS := Lib.hid (worthPart_succ p q f i false j hlt)
            obtain ⟨kj, hkj⟩ : ∃ k, k = (kids p i).getD j 0 := ⟨_, rfl⟩
            rw [← hkj] at hc HS
            have hg := kid_gt hgp.out (kid_mem (P := p) (i := i) hlt)
            rw [← hkj] at hg
            obtain ⟨hg1, hg2⟩ := hg
            clear hkj
            go_wp2_with fail
            refine (HIH.out kj true _ wr hg2 (by omega) ((HP.out.up HB1.out (Nat.le_refl _)).up HB.out (Nat.le_refl _))).mono ?_
            rintro e w3 ⟨rfl, hb3⟩
            have HB3 := Lib.hid (HB.out.trans (hb3.mono HB.out.size))
            clear hb3 t0 t1 hc
            go_wp2_with fail
            go_roundw
            case rel => exact ⟨j + 1, by go_num, by omega, by rw [HS.out]; first | rfl | exact congrArg _ (by simp only [Bool.false_eq_true, if_false, if_true, Bool.not_false, Bool.not_true]; first | rfl | (split <;> omega)), HB3.out⟩
            case measure => simp [intOf]; omega
          · obtain rfl : j = (kids p i).length := by omega
            go_wp2_with fail
            go_ret
            exact ⟨by rw [HW.out]; rfl, HB1.out.trans (HB.out.mono HB1.out.size)⟩
      case true =>
        go_wp2_with fail
        go_region_held3 (fun w' => w'.cell? ⟨w.heap.size, 0, none⟩ = some (.slice a p.length c) ∧ w'.cell? ⟨w.heap.size, 1, none⟩ = some (.slice a' q.length c') ∧ w'.cell? ⟨kb, ko, none⟩ = some (.int .i64 k0) ∧ Below w1.heap.size w1 w')
          (first | exact ⟨held_of hbn t0 (Nat.le_refl _), held_of hbn t1 (Nat.le_refl _), held_of hbn hc (Nat.le_refl _), hbn⟩ | exact ⟨t0, t1, hc, (Below.refl _ _).drew⟩)
          (first | (go_at_call 91; have hh := (‹_ ∧ _ ∧ _ ∧ Below w1.heap.size w1 _›).2.2.2; refine (HIH.out k0 false _ _ hkg2 (by omega) ((HP.out.up HB1.out (Nat.le_refl _)).up hh (Nat.le_refl _))).mono ?_; rintro e w2 ⟨rfl, hb2⟩; have hbn := hh.trans (hb2.mono hh.size)))
        have HBN := Lib.hid hbn
        have H0 := Lib.hid (show worthPart p q f i true 0 = worthT p q f k0 false by rw [HK0.out]; rfl)
        clear hb2 hh hbn t0 t1 hc
        rw [← H0.out]
        go_wp2_with fail
        go_loopw [8, 31] (fun b kk wr => ∃ j : Nat, kk = .int .i64 j ∧ j ≤ (kids p i).length ∧ b = .int .i64 (worthPart p q f i true j) ∧ Below w1.heap.size w1 wr) (fun _ kk _ => (kids p i).length - (intOf kk).toNat)
        case atStart => exact ⟨0, rfl, Nat.zero_le _, rfl, HBN.out⟩
        case round =>
          obtain ⟨j, rfl, hj, rfl, hbl⟩ := hrel
          have HK := Lib.hid (HK1.out.below hbl HK1.out.lt)
          have HB := Lib.hid hbl
          clear hbl
          by_cases hlt : j < (kids p i).length
          · have t0 : wr.cell? ⟨w.heap.size, 0, none⟩ = some (.slice a p.length c) := HK.out.cell 0 rfl
            have t1 : wr.cell? ⟨w.heap.size, 1, none⟩ = some (.slice a' q.length c') := HK.out.cell 1 rfl
            obtain ⟨_, _, e, _, hc⟩ := (HO1.out.up HB.out (Nat.le_refl _)).at (i := j) (by rw [kidsI_full_len]; exact hlt)
            simp only [Option.some.injEq, Addr.mk.injEq, and_true] at e
            obtain ⟨rfl, rfl⟩ := e
            rw [kidsI_at hlt] at hc
            have HS := Lib.hid (worthPart_succ p q f i true j hlt)
            obtain ⟨kj, hkj⟩ : ∃ k, k = (kids p i).getD j 0 := ⟨_, rfl⟩
            rw [← hkj] at hc HS
            have hg := kid_gt hgp.out (kid_mem (P := p) (i := i) hlt)
            rw [← hkj] at hg
            obtain ⟨hg1, hg2⟩ := hg
            clear hkj
            go_wp2_with fail
            refine (HIH.out kj false _ wr hg2 (by omega) ((HP.out.up HB1.out (Nat.le_refl _)).up HB.out (Nat.le_refl _))).mono ?_
            rintro e w3 ⟨rfl, hb3⟩
            have HB3 := Lib.hid (HB.out.trans (hb3.mono HB.out.size))
            clear hb3 t0 t1 hc
            go_wp2_with fail
            go_roundw
            case rel => exact ⟨j + 1, by go_num, by omega, by rw [HS.out]; first | rfl | exact congrArg _ (by simp only [Bool.false_eq_true, if_false, if_true, Bool.not_false, Bool.not_true]; first | rfl | (split <;> omega)), HB3.out⟩
            case measure => simp [intOf]; omega
          · obtain rfl : j = (kids p i).length := by omega
            go_wp2_with fail
            go_ret
            exact ⟨by rw [HW.out]; rfl, HB1.out.trans (HB.out.mono HB1.out.size)⟩

end Go.Proofs.Ytkcpncaedocdnaa
