/-
  Trees: the worth of an index, by the reference.
-/
import Derived.Test.YtkcpncaedocdnaaWorth
namespace Go.Proofs.Ytkcpncaedocdnaa
open Go.RowKit

theorem pickE (b x : Int) : (Value.int .i64 (if b < x then x else b)) = .int .i64 (max b x) := by
  congr 1; split <;> omega

set_option maxHeartbeats 4000000 in
set_option maxRecDepth 4000 in
theorem l07Worth_any (bb : Nat) (v v' : Value) (t : List Int × List Int) (hv : ValT t) (f : Nat) : ∀ (i : Nat) (ev : Bool) (w : World), i < t.1.length → t.1.length ≤ i + f → Blk w bb 28 #[v, v'] → RdT w (.agg #[v, v']) t →
    Calls Try.prog 90 #[.pointer (some ⟨bb, 0, none⟩), .int .i64 i, .bool ev] w fun e w' => e = .returned (.int .i64 (worthT t.1 t.2 f i ev)) ∧ Below w.heap.size w w' := by
  induction f with
  | zero => intro i ev w h1 h2; omega
  | succ f ih =>
    intro i ev w hi hf hblk h
    have hl64 := hv.2.1
    have hlq := Lib.hid hv.2.2.1
    have h0 := hv.2.2.2.1
    have hgp := Lib.hid hv.goodP
    obtain ⟨p, q⟩ := t
    obtain ⟨g1, g2⟩ := h.parts
    obtain ⟨a, c, rfl⟩ := g1.shape
    obtain ⟨a', c', rfl⟩ := g2.shape
    simp only at h hi hf hl64 hgp ih h0 g1 g2 hlq ⊢
    have HP := Lib.hid h
    have HQ := Lib.hid g2
    have HK := Lib.hid hblk
    have HIH := Lib.hid ih
    have H00 := Lib.hid h0
    clear h ih hv g1 g2 hblk h0
    go_enter Try.func90, Try.ntmps90
    go_wp2_with fail
    refine (l07Children_any bb _ _ (p, q) i w HK.out HP.out hl64 H00.out).mono ?_
    rintro e w1 ⟨v1, rfl, ho1, hb1⟩
    simp only at ho1
    obtain ⟨a1, c1, rfl⟩ := ho1.rd.shape
    have HB1 := Lib.hid hb1
    have HK1 := Lib.hid (HK.out.below hb1 HK.out.lt)
    have HO1 := Lib.hid ho1.rd
    clear hb1 ho1
    rw [kidsI_full_len] at *
    have hkl : (kids p i).length ≤ 64 := Nat.le_trans (kidsTo_len p i p.length) hl64
    by_cases hkn : kids p i = []
    · have HW := Lib.hid (worthT_none p q (f + 1) i ev hkn)
      have hl0 : (((kids p i).length : Int) == 0) = true := by rw [hkn]; rfl
      have t1 : w1.cell? ⟨bb, 1, none⟩ = some (.slice a' q.length c') := HK1.out.cell 1 rfl
      have hiq : i < q.length := by have := hlq.out; omega
      obtain ⟨qb, qo, rfl, _, hc⟩ := (HQ.out.up HB1.out (Nat.le_refl _)).at (i := i) hiq
      obtain ⟨x, hx⟩ : ∃ x, x = q.getD i 0 := ⟨_, rfl⟩
      rw [← hx] at hc
      have HX := Lib.hid hx
      clear hx hkn
      go_wp2_with fail
      go_ret
      exact ⟨by rw [HW.out, ← HX.out]; rfl, HB1.out⟩
    · have hlk : 0 < (kids p i).length := by
        rcases Nat.eq_zero_or_pos (kids p i).length with h | h
        · exact absurd (List.length_eq_zero_iff.1 h) hkn
        · exact h
      have hl0 : (((kids p i).length : Int) == 0) = false := by rw [beq_eq_false_iff_ne]; omega
      have HW := Lib.hid (worthT_some p q f i ev hkn)
      have HKN := Lib.hid hkn
      clear hkn
      obtain ⟨kb, ko, rfl, _, hc⟩ := HO1.out.at (i := 0) (by rw [kidsI_full_len]; exact hlk)
      rw [kidsI_at hlk, Nat.add_zero] at hc
      obtain ⟨k0, hk0⟩ : ∃ k, k = (kids p i).getD 0 0 := ⟨_, rfl⟩
      rw [← hk0] at hc
      have HK0 := Lib.hid hk0
      have hkg := kid_gt hgp.out (kid_mem (P := p) (i := i) hlk)
      rw [← hk0] at hkg
      obtain ⟨hkg1, hkg2⟩ := hkg
      clear hk0
      obtain ⟨ne, hne⟩ : ∃ ne, ne = !ev := ⟨_, rfl⟩
      go_wp2_with fail
      rw [← hne]
      refine (HIH.out k0 ne w1 hkg2 (by omega) HK1.out (HP.out.up HB1.out (Nat.le_refl _))).mono ?_
      rintro e w2 ⟨rfl, hb2⟩
      have HBN := Lib.hid hb2
      have HNE := Lib.hid hne
      have H0 := Lib.hid (show worthPart p q f i ev 0 = worthT p q f k0 ne by rw [HK0.out, HNE.out]; rfl)
      clear hb2 hc hne
      rw [← H0.out]
      go_wp2_with fail
      go_loopw [8, 33] (fun b kk wr => ∃ j : Nat, kk = .int .i64 j ∧ j ≤ (kids p i).length ∧ b = .int .i64 (worthPart p q f i ev j) ∧ Below w1.heap.size w1 wr) (fun _ kk _ => (kids p i).length - (intOf kk).toNat)
      case atStart => exact ⟨0, rfl, Nat.zero_le _, rfl, HBN.out⟩
      case round =>
        obtain ⟨j, rfl, hj, rfl, hbl⟩ := hrel
        have HK := Lib.hid (HK1.out.below hbl HK1.out.lt)
        have HB := Lib.hid hbl
        clear hbl
        by_cases hlt : j < (kids p i).length
        · obtain ⟨_, _, e, _, hc⟩ := (HO1.out.up HB.out (Nat.le_refl _)).at (i := j) (by rw [kidsI_full_len]; exact hlt)
          simp only [Option.some.injEq, Addr.mk.injEq, and_true] at e
          obtain ⟨rfl, rfl⟩ := e
          rw [kidsI_at hlt] at hc
          have HS := Lib.hid (worthPart_succ p q f i ev j hlt)
          obtain ⟨kj, hkj⟩ : ∃ k, k = (kids p i).getD j 0 := ⟨_, rfl⟩
          rw [← hkj] at hc HS
          have hg := kid_gt hgp.out (kid_mem (P := p) (i := i) hlt)
          rw [← hkj] at hg
          obtain ⟨hg1, hg2⟩ := hg
          clear hkj
          rw [← HNE.out] at HS
          go_wp2_with fail
          rw [← HNE.out]
          refine (HIH.out kj ne wr hg2 (by omega) HK.out ((HP.out.up HB1.out (Nat.le_refl _)).up HB.out (Nat.le_refl _))).mono ?_
          rintro e w3 ⟨rfl, hb3⟩
          have HB3 := Lib.hid (HB.out.trans (hb3.mono HB.out.size))
          clear hb3 hc
          obtain ⟨wj, hwj⟩ : ∃ x, x = worthT p q f kj ne := ⟨_, rfl⟩
          obtain ⟨pj, hpj⟩ : ∃ x, x = worthPart p q f i ev j := ⟨_, rfl⟩
          rw [← hwj, ← hpj] at HS
          rw [← hwj, ← hpj]
          clear hwj hpj
          have fin : ∀ pn : Int, pn = (if ev then max pj wj else min pj wj) → pn = worthPart p q f i ev (j + 1) := fun pn h => by rw [h, HS.out]
          have HFIN := Lib.hid fin
          clear fin HS
          cases ev
          case false =>
            by_cases hlt2 : wj < pj
            · go_wp2_with fail
              go_roundw
              case rel => exact ⟨j + 1, by go_num, by omega, by rw [← HFIN.out wj (by simp; omega)], HB3.out⟩
              case measure => simp [intOf]; omega
            · go_wp2_with fail
              go_roundw
              case rel => exact ⟨j + 1, by go_num, by omega, by rw [← HFIN.out pj (by simp; omega)], HB3.out⟩
              case measure => simp [intOf]; omega
          case true =>
            by_cases hlt2 : pj < wj
            · go_wp2_with fail
              go_roundw
              case rel => exact ⟨j + 1, by go_num, by omega, by rw [← HFIN.out wj (by simp; omega)], HB3.out⟩
              case measure => simp [intOf]; omega
            · go_wp2_with fail
              go_roundw
              case rel => exact ⟨j + 1, by go_num, by omega, by rw [← HFIN.out pj (by simp; omega)], HB3.out⟩
              case measure => simp [intOf]; omega
        · obtain rfl : j = (kids p i).length := by omega
          go_wp2_with fail
          go_ret
          exact ⟨by rw [HW.out]; rfl, HB1.out.trans (HB.out.mono HB1.out.size)⟩

end Go.Proofs.Ytkcpncaedocdnaa
