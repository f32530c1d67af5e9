/-
  Trees: one looks, by the program and by the reference.
-/
import Derived.Test.YtkcpncaedocdnaaKids
import Derived.Test.YtkcpncaedocdnaaLeaves
import Derived.Test.YtkcpncaedocdnaaWorth
namespace Go.Proofs.Ytkcpncaedocdnaa
open Go.RowKit

/-- The looks at the first j children: no more than their ends. -/
theorem lookPart_cnt (P V : List Int) (f i : Nat) (e : Bool) (lo hi : Int) (j : Nat) (hj : j ≤ (kids P i).length) : (lookPart P V f i e lo hi j).2.2 ≤ (((kids P i).take j).map (endsT P f)).sum := by
  induction j with
  | zero => simp [lookPart]
  | succ j ih =>
    have h1 := ih (by omega)
    rw [lookPart_succ _ _ _ _ _ _ _ _ (by omega), List.take_add_one, List.map_append, List.sum_append]
    generalize (((kids P i).take j).map (endsT P f)).sum = S at h1 ⊢
    have e2 : (kids P i)[j]? = some ((kids P i).getD j 0) := by simp [show j < (kids P i).length by omega]
    have h2 := look_le P V f ((kids P i).getD j 0) (!e) (lookPart P V f i e lo hi j).1 (lookPart P V f i e lo hi j).2.1
    rw [e2]
    simp only [Option.toList_some, List.map_cons, List.map_nil, List.sum_cons, List.sum_nil]
    split
    · cases e <;> simp at h2 ⊢ <;> omega
    · omega
theorem take_sum_le (l : List Nat) (j : Nat) : (l.take j).sum ≤ l.sum := by
  have : (l.take j).sum + (l.drop j).sum = l.sum := by rw [← List.sum_append, List.take_append_drop]
  omega
theorem endsT_some (P : List Int) (f i : Nat) (h : kids P i ≠ []) : endsT P (f + 1) i = ((kids P i).map (endsT P f)).sum := by
  simp only [endsT]
  cases hk : kids P i with
  | nil => exact absurd hk h
  | cons k r => rfl
theorem endsT_none (P : List Int) (f i : Nat) (h : kids P i = []) : endsT P f i = 1 := by
  cases f with
  | zero => rfl
  | succ f => simp only [endsT, h]
/-- Room for the looks at the next child. -/
theorem look_room (P V : List Int) (f i : Nat) (e : Bool) (lo hi : Int) (j : Nat) (hj : j < (kids P i).length) : (lookPart P V f i e lo hi j).2.2 + endsT P f ((kids P i).getD j 0) ≤ endsT P (f + 1) i := by
  have h0 : kids P i ≠ [] := fun h => by rw [h] at hj; simp at hj
  have h1 := lookPart_cnt P V f i e lo hi j (by omega)
  rw [endsT_some _ _ _ h0]
  have h2 := take_sum_le ((kids P i).map (endsT P f)) (j + 1)
  have e2 : ((kids P i).map (endsT P f))[j]? = some (endsT P f ((kids P i).getD j 0)) := by simp [hj]
  rw [List.take_add_one, List.sum_append, e2, ← List.map_take] at h2
  simp only [Option.toList_some, List.sum_cons, List.sum_nil] at h2
  omega
theorem lookPart_end (P V : List Int) (f i : Nat) (e : Bool) (lo hi : Int) (j : Nat) (hj : j ≤ (kids P i).length) (h : ¬ (lookPart P V f i e lo hi j).1 < (lookPart P V f i e lo hi j).2.1) : lookPart P V f i e lo hi (kids P i).length = lookPart P V f i e lo hi j := by
  have := lookPart_stop P V f i e lo hi j h ((kids P i).length - j) (by omega)
  rwa [show j + ((kids P i).length - j) = (kids P i).length by omega] at this
theorem endsT_64 {t : List Int × List Int} (h : ValT t) (f i : Nat) (h1 : t.1.length ≤ i + f) (h2 : i < t.1.length) : endsT t.1 f i ≤ 64 :=
  Nat.le_trans (ends_le h.goodP f i h1 h2) (Nat.le_trans (leaves_len t.1) h.2.1)

set_option maxHeartbeats 4000000 in
set_option maxRecDepth 4000 in
theorem look_any (t : List Int × List Int) (hv : ValT t) (f : Nat) : ∀ (i : Nat) (ev : Bool) (lo hi : Int) (v : Value) (w : World), i < t.1.length → t.1.length ≤ i + f → RdT w v t →
    Calls Try.prog 79 #[v, .int .i64 i, .int .i64 lo, .int .i64 hi, .bool ev] w fun e w' => e = .returned (.tuple #[.int .i64 (lookT t.1 t.2 f i ev lo hi).1, .int .i64 ((lookT t.1 t.2 f i ev lo hi).2 : Nat)]) ∧ Below w.heap.size w w' := by
  induction f with
  | zero => intro i ev lo hi v w h1 h2; omega
  | succ f ih =>
    intro i ev lo hi v w hi1 hf h
    have hl64 := hv.2.1
    have hlq := Lib.hid hv.2.2.1
    have hgp := Lib.hid hv.goodP
    have he64 := endsT_64 hv (f + 1) i (by omega) hi1
    obtain ⟨p, q⟩ := t
    obtain ⟨a, c, a', c', rfl⟩ := h.shape
    simp only at h hi1 hf hl64 hgp ih hlq he64 ⊢
    have HP := Lib.hid h
    have HIH := Lib.hid ih
    clear h ih hv
    go_enter Try.func79, Try.ntmps79
    go_wp2_with fail
    refine Calls.at fun W hW => ?_
    have hb := Lib.hid (show Below w.heap.size w W by subst hW; (repeat' first | exact Below.refl _ _ | assumption | refine Below.alloc ?_ ?_ _ | refine Below.setCell ?_ ?_ _ | refine Below.drew ?_ | (simp; done) | (simp; omega)))
    have hk := Lib.hid (show Blk W w.heap.size 28 #[.slice a p.length c, .slice a' q.length c'] by subst hW; exact Blk.new _ _ _)
    clear hW
    refine (children_any _ (p, q) i W (HP.out.up hb.out (Nat.le_refl _)) hl64).mono ?_
    rintro e w1 ⟨v1, rfl, ho1, hb1⟩
    simp only at ho1
    obtain ⟨a1, c1, rfl⟩ := ho1.rd.shape
    have HB1 := Lib.hid (hb.out.trans (hb1.mono hb.out.size))
    have HK1 := Lib.hid (hk.out.below hb1 hk.out.lt)
    have HO1 := Lib.hid ho1.rd
    clear hb1 hb hk ho1
    rw [kidsI_full_len] at *
    have hkl : (kids p i).length ≤ 64 := Nat.le_trans (kidsTo_len p i p.length) hl64
    by_cases hkn : kids p i = []
    · have HW := Lib.hid (lookT_none p q (f + 1) i ev lo hi hkn)
      have hl0 : (((kids p i).length : Int) == 0) = true := by rw [hkn]; rfl
      have t1 : w1.cell? ⟨w.heap.size, 1, none⟩ = some (.slice a' q.length c') := HK1.out.cell 1 rfl
      have hiq : i < q.length := by have := hlq.out; omega
      obtain ⟨qb, qo, rfl, _, hc⟩ := ((HP.out.up HB1.out (Nat.le_refl _)).parts.2).at (i := i) hiq
      simp only at hc
      obtain ⟨x, hx⟩ : ∃ x, x = q.getD i 0 := ⟨_, rfl⟩
      rw [← hx] at hc
      have HX := Lib.hid hx
      clear hx hkn
      go_wp2_with fail
      go_ret2
      exact ⟨by rw [HW.out, ← HX.out]; rfl, HB1.out⟩
    · have hl0 : (((kids p i).length : Int) == 0) = false := by
        have : (kids p i).length ≠ 0 := fun h => hkn (List.length_eq_zero_iff.1 h)
        rw [beq_eq_false_iff_ne]; omega
      have HW := Lib.hid (lookT_some p q f i ev lo hi hkn)
      clear hkn
      go_wp2_with fail
      go_loopw [2, 3, 13, 31] (fun l h n kk wr => ∃ j : Nat, kk = .int .i64 j ∧ j ≤ (kids p i).length ∧ l = .int .i64 (lookPart p q f i ev lo hi j).1 ∧ h = .int .i64 (lookPart p q f i ev lo hi j).2.1 ∧ n = .int .i64 ((lookPart p q f i ev lo hi j).2.2 : Nat) ∧ Below w1.heap.size w1 wr) (fun _ _ _ kk _ => (kids p i).length - (intOf kk).toNat)
      case atStart => exact ⟨0, rfl, Nat.zero_le _, rfl, rfl, rfl, Below.refl _ _⟩
      case round =>
        obtain ⟨j, rfl, hj, rfl, rfl, rfl, hbl⟩ := hrel
        have HK := Lib.hid (HK1.out.below hbl HK1.out.lt)
        have HB := Lib.hid hbl
        clear hbl
        have HEND := Lib.hid (lookPart_end p q f i ev lo hi j hj)
        by_cases hlt : j < (kids p i).length
        · have t0 : wr.cell? ⟨w.heap.size, 0, none⟩ = some (.slice a p.length c) := HK.out.cell 0 rfl
          have t1 : wr.cell? ⟨w.heap.size, 1, none⟩ = some (.slice a' q.length c') := HK.out.cell 1 rfl
          obtain ⟨kb, ko, rfl, _, hc⟩ := (HO1.out.up HB.out (Nat.le_refl _)).at (i := j) (by rw [kidsI_full_len]; exact hlt)
          rw [kidsI_at hlt] at hc
          have HS := Lib.hid (lookPart_succ p q f i ev lo hi j hlt)
          have hroom := look_room p q f i ev lo hi j hlt
          obtain ⟨kj, hkj⟩ : ∃ k, k = (kids p i).getD j 0 := ⟨_, rfl⟩
          rw [← hkj] at hc HS hroom
          have hg := kid_gt hgp.out (kid_mem (P := p) (i := i) hlt)
          rw [← hkj] at hg
          obtain ⟨hg1, hg2⟩ := hg
          clear hkj
          obtain ⟨L, M, C, hL⟩ : ∃ L M C, lookPart p q f i ev lo hi j = (L, M, C) := ⟨_, _, _, rfl⟩
          rw [hL] at HS HEND hroom ⊢
          simp only at HS HEND hroom ⊢
          have HL := Lib.hid hL
          clear hL
          by_cases hlm : L < M
          · have hx1 := look_le p q f kj (!ev) L M
            rw [if_pos hlm] at HS
            go_wp2_with fail
            refine (HIH.out kj (!ev) L M _ wr hg2 (by omega) ((HP.out.up HB1.out (Nat.le_refl _)).up HB.out (Nat.le_refl _))).mono ?_
            rintro e w3 ⟨rfl, hb3⟩
            have HB3 := Lib.hid (HB.out.trans (hb3.mono HB.out.size))
            clear hb3 t0 t1 hc
            obtain ⟨x, n, hx⟩ : ∃ x n, lookT p q f kj (!ev) L M = (x, n) := ⟨_, _, rfl⟩
            rw [hx] at HS hx1 ⊢
            simp only at HS hx1 ⊢
            clear hx
            cases ev
            case false =>
              go_wp2_with fail
              go_roundw
              case rel => exact ⟨j + 1, by go_num, by omega, by rw [HS.out]; rfl, by rw [HS.out]; exact congrArg _ (by simp only [Bool.false_eq_true, if_false]; split <;> omega), by rw [HS.out]; simp only [Bool.false_eq_true, if_false]; go_num, HB3.out⟩
              case measure => simp [intOf]; omega
            case true =>
              go_wp2_with fail
              go_roundw
              case rel => exact ⟨j + 1, by go_num, by omega, by rw [HS.out]; exact congrArg _ (by simp only [if_true]; split <;> omega), by rw [HS.out]; rfl, by rw [HS.out]; simp only [if_true]; go_num, HB3.out⟩
              case measure => simp [intOf]; omega
          · cases ev
            all_goals
              go_wp2_with fail
              go_ret2
              exact ⟨by rw [HW.out, HEND.out hlm]; rfl, HB1.out.trans (HB.out.mono HB1.out.size)⟩
        · obtain rfl : j = (kids p i).length := by omega
          cases ev
          all_goals
            go_wp2_with fail
            go_ret2
            exact ⟨by rw [HW.out]; rfl, HB1.out.trans (HB.out.mono HB1.out.size)⟩

end Go.Proofs.Ytkcpncaedocdnaa
