/-
  FnJournal: texts joined: PivI.
-/
import Derived.Deep.RegionHeld3
import Derived.Deep.RegionLaw
import Derived.Deep.CutRange
import Derived.Test.YtgkbbpajkbkgnaaGreatDoorMFnJournalAL
set_option linter.unusedVariables false
set_option linter.unusedSimpArgs false
namespace Go.Proofs.YtgkbbpajkbkgnaaGreatDoor
open Go.RowKit
theorem gt_ne {p : Nat} (h : gtF p 0 = true) : (FloatKind.f32.format.order p 0 == some .eq) = false := by
  have : Ieee.single.order p 0 = some .gt := by unfold gtF at h; simpa using h
  show (Ieee.single.order p 0 == some .eq) = false
  rw [this]
  rfl
theorem kept_three (w : World) (q : Nat) (u0 u1 u2 : Value) : Kept (fun b => b = q) w (((w.setCell ⟨q, 0, none⟩ u0).setCell ⟨q, 1, none⟩ u1).setCell ⟨q, 2, none⟩ u2) :=
  Kept.setCell (S := fun b => b = q) (Kept.setCell (S := fun b => b = q) (Kept.setCell (S := fun b => b = q) (Kept.refl _ w) (p := ⟨q, 0, none⟩) (.inr rfl) u0) (p := ⟨q, 1, none⟩) (.inr rfl) u1) (p := ⟨q, 2, none⟩) (.inr rfl) u2
theorem copyN_any (v : Value) (xs : List Nat) (w : World) (h : RdF w v xs) (hb : xs.length ≤ 1000) (h1 : 1 ≤ xs.length) :
    Calls Tryz.prog 131 #[v] w fun e w' => ∃ g cap, e = .returned (.slice (some ⟨g, 0, none⟩) xs.length cap) ∧ w'.ownsRow w.heap.size 100 1 (.slice (some ⟨g, 0, none⟩) xs.length cap) xs.length (xs.map F32) ∧ Below w.heap.size w w' := by
  refine (copyF_any v xs w h (by omega)).mono ?_
  rintro e w' ⟨v', rfl, ho, hb⟩
  obtain ⟨g, cap, rfl, _⟩ := owns_some ho.1 (by intro e; have := ho.rd.shape; obtain ⟨a, c, e2⟩ := this; rw [e] at e2; injection e2 with _ e3 _; omega)
  exact ⟨g, cap, rfl, ho.1, hb⟩
set_option maxHeartbeats 4000000 in
set_option maxRecDepth 8000 in
theorem pivotI_any (v : Value) (t : TabD) (row col : Nat) (w : World) (h : RdTb w v t) (hg : GoodT t) (hr : row < t.basis.length) (hc : col < colsT t) (hp : gtF (atT t row col) 0 = true) :
    Calls Tryz.prog 333 #[v, .int .i64 row, .int .i64 col] w fun e w' => ∃ tv, e = .returned (.tuple #[tv, .bool (pivOk t row col)]) ∧ (pivOk t row col = false → tv = .agg #[.int .i64 0, .slice none 0 0, .slice none 0 0]) ∧ (pivOk t row col = true → ∀ Wg, Kept (· < w.heap.size) w' Wg → RdTb Wg tv (pivT t row col)) ∧ Below w.heap.size w w' := by
  have hd := hg.dim
  have HG := Lib.hid hg
  have HRT := Lib.hid h
  have h17 := hd.w17
  have hb8 := hd.b8
  have hv1 := hd.v1
  have hv8 := hd.v8
  have hm := hd.n153
  have hcw : col < wdT t := by rw [wdT_cols]; omega
  obtain ⟨a, c, b, d, rfl⟩ := h.shape
  have HNS := Lib.hid h.parts.1
  have HBS := Lib.hid h.parts.2
  have HAT := Lib.hid (fun X (hb : Below w.heap.size w X) => tabAt_any _ t row col X (HRT.out.up hb (Nat.le_refl _)) hd (by omega) hcw)
  have HWD := Lib.hid (fun X (hb : Below w.heap.size w X) => tabWide_any _ t X (HRT.out.up hb (Nat.le_refl _)) hd)
  have HPG := Lib.hid hp
  have hpe := gt_ne hp
  have HDV := Lib.hid (show ∀ k, k < wdT t → Ieee.single.div (atT t row k) (atT t row col) = some (divV (atT t row k) (atT t row col)) from fun k hk => div_some (hg.at (by omega) hk) (hg.at (by omega) hcw) hp)
  obtain ⟨p, hpp⟩ : ∃ p, p = atT t row col := ⟨_, rfl⟩
  rw [← hpp] at HAT HDV hpe
  obtain ⟨N, hN⟩ : ∃ N, N = t.basis.length := ⟨_, rfl⟩
  obtain ⟨M, hM⟩ : ∃ M, M = t.nums.length := ⟨_, rfl⟩
  obtain ⟨W, hW⟩ : ∃ W, W = wdT t := ⟨_, rfl⟩
  obtain ⟨V, hV⟩ : ∃ V, V = t.vars := ⟨_, rfl⟩
  have HN := Lib.hid hN.symm
  have HM := Lib.hid hM.symm
  have HW := Lib.hid hW.symm
  have HV := Lib.hid hV.symm
  have HP := Lib.hid hpp.symm
  have HD := Lib.hid hd
  have HMW := Lib.hid (show M = W * (N + 1) by rw [hM, hW, hN]; exact hd.nl)
  have HIX := Lib.hid (show ∀ i k, i ≤ N → k < W → i * W + k < M from fun i k hi hk => by rw [hM, hW]; exact hd.ix (by omega) (by omega))
  rw [← hN] at hr hb8
  rw [← hM] at hm
  rw [← hW] at h17 hcw
  rw [← hV] at hv1 hv8
  rw [← hW] at HDV HWD
  rw [← hM] at HNS
  rw [← hN] at HBS
  rw [← hN, ← hM, ← hV] at HAT HWD ⊢
  clear h hg hp hpp hN hM hW hV hd HRT hc
  have HCF := Lib.hid (fun X (hb : Below w.heap.size w X) => copyN_any (.slice a t.nums.length c) t.nums X (by rw [HM.out]; exact HNS.out.up hb (Nat.le_refl _)) (by rw [HM.out]; omega) (by rw [HM.out]; have := HIX.out 0 0 (by omega) (by omega); omega))
  have HCI := Lib.hid (fun X (hb : Below w.heap.size w X) => copyInts_any b d t.basis X (by rw [HN.out]; exact HBS.out.up hb (Nat.le_refl _)) (by rw [HN.out]; omega))
  rw [HM.out] at HCF
  rw [HN.out] at HCI
  go_enter Tryz.func333, Tryz.ntmps333
  go_upto_region 1 with fail
  refine wp_at fun W0 hW0 => ?_
  have HB0 := Lib.hid (show Below w.heap.size w W0 by subst hW0; (repeat' first | exact Below.refl _ _ | assumption | refine Below.alloc ?_ ?_ _ | refine Below.setCell ?_ ?_ _ | refine Below.drew ?_ | (simp; done) | (simp; omega)))
  have HK0 := Lib.hid (show Blk W0 w.heap.size 258 #[.int .i64 V, .slice a M c, .slice b N d] by subst hW0; exact (Blk.new _ _ _).alloc _)
  have HR0 := Lib.hid (show Blk W0 (w.heap.size + 1) 258 #[.int .i64 0, .slice none 0 0, .slice none 0 0] by subst hW0; simpa using Blk.new (w.alloc (.cells #[.int .i64 V, .slice a M c, .slice b N d] 258)) 258 #[.int .i64 0, .slice none 0 0, .slice none 0 0])
  have hz0 := HB0.out.size
  have hz02 : w.heap.size + 2 ≤ W0.heap.size := by have := HR0.out.lt; omega
  clear hW0
  have d0 : W0.cell? ⟨w.heap.size, 0, none⟩ = some (.int .i64 V) := HK0.out.cell 0 rfl
  have d1 : W0.cell? ⟨w.heap.size, 1, none⟩ = some (.slice a M c) := HK0.out.cell 1 rfl
  have d2 : W0.cell? ⟨w.heap.size, 2, none⟩ = some (.slice b N d) := HK0.out.cell 2 rfl
  go_upto_region 4 with (go_at_call 322; refine (HAT.out W0 HB0.out).mono ?_; rintro e w1 ⟨rfl, hb1⟩)
  have HB1 := Lib.hid hb1
  have HBw1 := Lib.hid (HB0.out.trans (hb1.mono hz0))
  have HK1 := Lib.hid (HK0.out.below hb1 HK0.out.lt)
  have HR1 := Lib.hid (HR0.out.below hb1 HR0.out.lt)
  have hz1 := HBw1.out.size
  have hz12 := Nat.le_trans hz02 hb1.size
  clear d0 d1 d2 hb1 HK0 HR0 HB0 HAT hpe
  have d0 : w1.cell? ⟨w.heap.size, 0, none⟩ = some (.int .i64 V) := HK1.out.cell 0 rfl
  have d1 : w1.cell? ⟨w.heap.size, 1, none⟩ = some (.slice a M c) := HK1.out.cell 1 rfl
  have d2 : w1.cell? ⟨w.heap.size, 2, none⟩ = some (.slice b N d) := HK1.out.cell 2 rfl
  go_cut [9] from 24 to 116 (fun ov wx => ∃ (q g h gc hc : Nat), ov = .pointer (some ⟨q, 0, none⟩) ∧ Hid (Blk wx q 258 #[.int .i64 V, .slice (some ⟨g, 0, none⟩) M gc, .slice (some ⟨h, 0, none⟩) N hc]) ∧ Hid (wx.ownsRow w1.heap.size 100 1 (.slice (some ⟨g, 0, none⟩) M gc) M (t.nums.map F32)) ∧ Hid (wx.ownsRow w1.heap.size 2 1 (.slice (some ⟨h, 0, none⟩) N hc) N (t.basis.map I64)) ∧ Hid (Below w1.heap.size w1 wx) ∧ w1.heap.size ≤ q)
  case first =>
    have HKEEP := Lib.hid (show ∀ X, Below w1.heap.size w1 X → X.cell? ⟨w.heap.size, 0, none⟩ = some (.int .i64 V) ∧ X.cell? ⟨w.heap.size, 1, none⟩ = some (.slice a M c) ∧ X.cell? ⟨w.heap.size, 2, none⟩ = some (.slice b N d) ∧ Below w1.heap.size w1 X from fun X hb => ⟨held_of hb d0 (Nat.le_refl _), held_of hb d1 (Nat.le_refl _), held_of hb d2 (Nat.le_refl _), hb⟩)
    go_region_held3 (fun X => X.cell? ⟨w.heap.size, 0, none⟩ = some (.int .i64 V) ∧ X.cell? ⟨w.heap.size, 1, none⟩ = some (.slice a M c) ∧ X.cell? ⟨w.heap.size, 2, none⟩ = some (.slice b N d) ∧ Below w1.heap.size w1 X)
      (first | (refine HKEEP.out _ ?_; exact hbn) | (refine HKEEP.out _ ?_; exact hbn.alloc hbn.size _) | (refine HKEEP.out _ ?_; exact ((hbn.setCell (by first | (have := hbA.size; have := hbB.size; simp; omega) | (have := hbA.size; simp; omega) | (have := hbB.size; simp; omega) | (simp; done)) _).setCell (by first | (have := hbA.size; have := hbB.size; simp; omega) | (have := hbA.size; simp; omega) | (have := hbB.size; simp; omega) | (simp; done)) _).setCell (by first | (have := hbA.size; have := hbB.size; simp; omega) | (have := hbA.size; simp; omega) | (have := hbB.size; simp; omega) | (simp; done)) _) | (refine HKEEP.out _ ?_; (repeat' first | exact Below.refl _ _ | assumption | refine Below.alloc ?_ ?_ _ | refine Below.setCell ?_ ?_ _ | refine Below.drew ?_ | (simp; done) | (simp; omega)); done) | (refine HKEEP.out _ ?_; exact Below.alloc (‹_ ∧ _ ∧ _ ∧ Below w1.heap.size w1 _›).2.2.2 (‹_ ∧ _ ∧ _ ∧ Below w1.heap.size w1 _›).2.2.2.size _) | go_keep)
      (first
        | (go_at_call 131; refine (HCF.out _ (HBw1.out.trans (Below.mono (B := w1.heap.size) (by first | exact hbn | exact (Below.refl _ _).drew | exact hbn.alloc hbn.size _ | exact hbn.drew | (repeat' first | exact Below.refl _ _ | assumption | refine Below.alloc ?_ ?_ _ | refine Below.setCell ?_ ?_ _ | refine Below.drew ?_ | (simp; done) | (simp; omega))) hz1))).mono ?_; rintro e w2 ⟨g, gc, rfl, hog, hb2⟩; have zz := (show Below w1.heap.size w1 _ from (by first | exact hbn | exact (Below.refl _ _).drew | exact hbn.alloc hbn.size _ | exact hbn.drew | (repeat' first | exact Below.refl _ _ | assumption | refine Below.alloc ?_ ?_ _ | refine Below.setCell ?_ ?_ _ | refine Below.drew ?_ | (simp; done) | (simp; omega)))).trans (hb2.mono (show w1.heap.size ≤ _ from (by first | exact hbn.size | exact Nat.le_refl _ | (simp; done) | (have := hbn.size; simp; omega)))); have hog2 := owns_base hog (show w1.heap.size ≤ _ from (by first | exact hbn.size | exact Nat.le_refl _ | (simp; done) | (have := hbn.size; simp; omega))); have hbn := zz; have hbA := zz; clear zz; have t0 := held_of hbn d0 (Nat.le_refl _); have t1 := held_of hbn d1 (Nat.le_refl _); have t2 := held_of hbn d2 (Nat.le_refl _); (try (have hqA := (show Blk w2 w1.heap.size 258 #[.int .i64 0, .slice none 0 0, .slice none 0 0] from Blk.below (Blk.new w1.drew 258 #[.int .i64 0, .slice none 0 0, .slice none 0 0]) hb2 (by simp)); have qa0 := hqA.cell 0 rfl; have qa1 := hqA.cell 1 rfl; have qa2 := hqA.cell 2 rfl; have qaf0 := hqA.free 0; have qaf1 := hqA.free 1; have qaf2 := hqA.free 2)); (try (have hqA := (show Blk w2 w3.heap.size 258 #[.int .i64 0, .slice none 0 0, .slice none 0 0] from Blk.below (Blk.new w3 258 #[.int .i64 0, .slice none 0 0, .slice none 0 0]) hb2 (by simp)); have qa0 := hqA.cell 0 rfl; have qa1 := hqA.cell 1 rfl; have qa2 := hqA.cell 2 rfl; have qaf0 := hqA.free 0; have qaf1 := hqA.free 1; have qaf2 := hqA.free 2)); (try (have hqA := hqB.below hb2 hqB.lt; have qa0 := hqA.cell 0 rfl; have qa1 := hqA.cell 1 rfl; have qa2 := hqA.cell 2 rfl; have qaf0 := hqA.free 0; have qaf1 := hqA.free 1; have qaf2 := hqA.free 2)))
        | (go_at_call 123; refine (HCI.out _ (HBw1.out.trans (Below.mono (B := w1.heap.size) (by first | exact hbn | exact (Below.refl _ _).drew | exact hbn.alloc hbn.size _ | exact hbn.drew | (repeat' first | exact Below.refl _ _ | assumption | refine Below.alloc ?_ ?_ _ | refine Below.setCell ?_ ?_ _ | refine Below.drew ?_ | (simp; done) | (simp; omega))) hz1))).mono ?_; rintro e w3 ⟨h, hc, rfl, hoh, hb3⟩; have zz := (show Below w1.heap.size w1 _ from (by first | exact hbn | exact (Below.refl _ _).drew | exact hbn.alloc hbn.size _ | exact hbn.drew | (repeat' first | exact Below.refl _ _ | assumption | refine Below.alloc ?_ ?_ _ | refine Below.setCell ?_ ?_ _ | refine Below.drew ?_ | (simp; done) | (simp; omega)))).trans (hb3.mono (show w1.heap.size ≤ _ from (by first | exact hbn.size | exact Nat.le_refl _ | (simp; done) | (have := hbn.size; simp; omega)))); have hoh2 := owns_base hoh (show w1.heap.size ≤ _ from (by first | exact hbn.size | exact Nat.le_refl _ | (simp; done) | (have := hbn.size; simp; omega))); have hbn := zz; have hbB := zz; clear zz; have t0 := held_of hbn d0 (Nat.le_refl _); have t1 := held_of hbn d1 (Nat.le_refl _); have t2 := held_of hbn d2 (Nat.le_refl _); (try (have hqB := (show Blk w3 w1.heap.size 258 #[.int .i64 0, .slice none 0 0, .slice none 0 0] from Blk.below (Blk.new w1.drew 258 #[.int .i64 0, .slice none 0 0, .slice none 0 0]) hb3 (by simp)); have qb0 := hqB.cell 0 rfl; have qb1 := hqB.cell 1 rfl; have qb2 := hqB.cell 2 rfl; have qbf0 := hqB.free 0; have qbf1 := hqB.free 1; have qbf2 := hqB.free 2)); (try (have hqB := (show Blk w3 w2.heap.size 258 #[.int .i64 0, .slice none 0 0, .slice none 0 0] from Blk.below (Blk.new w2 258 #[.int .i64 0, .slice none 0 0, .slice none 0 0]) hb3 (by simp)); have qb0 := hqB.cell 0 rfl; have qb1 := hqB.cell 1 rfl; have qb2 := hqB.cell 2 rfl; have qbf0 := hqB.free 0; have qbf1 := hqB.free 1; have qbf2 := hqB.free 2)); (try (have hqB := hqA.below hb3 hqA.lt; have qb0 := hqB.cell 0 rfl; have qb1 := hqB.cell 1 rfl; have qb2 := hqB.cell 2 rfl; have qbf0 := hqB.free 0; have qbf1 := hqB.free 1; have qbf2 := hqB.free 2))))
    all_goals
      have hog3 : w3.ownsRow w1.heap.size 100 1 (.slice (some ⟨g, 0, none⟩) M gc) M (t.nums.map F32) := (by first | exact owns_below hog2 hb3 (Nat.le_refl _) | exact owns_below (hog2.alloc _) hb3 (Nat.le_refl _))
      go_wp2_with fail
      go_meet
    case rel => exact ⟨w3.heap.size, g, h, gc, hc, rfl, Lib.hid (Blk.new _ _ _), Lib.hid (hog3.alloc _), Lib.hid (hoh2.alloc _), Lib.hid (hbn.alloc hbn.size _), hbn.size⟩
    case rel =>
      have hqs : w1.heap.size ≤ w2.heap.size := hbA.size
      exact ⟨w2.heap.size, g, h, gc, hc, rfl, Lib.hid (by simpa using ((hqB.set 0 (.int .i64 V)).set 1 (.slice (some ⟨g, 0, none⟩) M gc)).set 2 (.slice (some ⟨h, 0, none⟩) N hc)), Lib.hid (owns_kept hog3 (kept_three _ _ _ _ _) (fun b e1 e2 => hqB.not_owned hog3 (by decide) (by rw [e1, e2]))), Lib.hid (owns_kept hoh2 (kept_three _ _ _ _ _) (fun b e1 e2 => hqB.not_owned hoh2 (by decide) (by rw [e1, e2]))), Lib.hid (((hbn.setCell hqs _).setCell hqs _).setCell hqs _), hqs⟩
    case rel =>
      have hqs : w1.heap.size ≤ w1.heap.size := Nat.le_refl _
      exact ⟨w1.heap.size, g, h, gc, hc, rfl, Lib.hid (by simpa using ((hqB.set 0 (.int .i64 V)).set 1 (.slice (some ⟨g, 0, none⟩) M gc)).set 2 (.slice (some ⟨h, 0, none⟩) N hc)), Lib.hid (owns_kept hog3 (kept_three _ _ _ _ _) (fun b e1 e2 => hqB.not_owned hog3 (by decide) (by rw [e1, e2]))), Lib.hid (owns_kept hoh2 (kept_three _ _ _ _ _) (fun b e1 e2 => hqB.not_owned hoh2 (by decide) (by rw [e1, e2]))), Lib.hid (((hbn.setCell hqs _).setCell hqs _).setCell hqs _), hqs⟩
  case rest =>
    obtain ⟨q, g, h, gc, hc, rfl, HKQ, HOG, HOH, HBC, hqs⟩ := hcut
    have HBw := Lib.hid (HBw1.out.trans (HBC.out.mono hz1))
    have HKc := Lib.hid (HK1.out.below HBC.out HK1.out.lt)
    have HRc := Lib.hid (HR1.out.below HBC.out HR1.out.lt)
    clear d0 d1 d2
    have d0 : wc.cell? ⟨w.heap.size, 0, none⟩ = some (.int .i64 V) := HKc.out.cell 0 rfl
    have d1 : wc.cell? ⟨w.heap.size, 1, none⟩ = some (.slice a M c) := HKc.out.cell 1 rfl
    have d2 : wc.cell? ⟨w.heap.size, 2, none⟩ = some (.slice b N d) := HKc.out.cell 2 rfl
    have hzc := HBC.out.size
    go_upto_region 6 with (go_at_call 321; refine (HWD.out wc HBw.out).mono ?_; rintro e w6 ⟨rfl, hb6⟩)
    have HB6 := Lib.hid (HBw.out.trans (hb6.mono HBw.out.size))
    have HK6 := Lib.hid (HKc.out.below hb6 HKc.out.lt)
    have HR6 := Lib.hid (HRc.out.below hb6 HRc.out.lt)
    have HQ6 := Lib.hid (HKQ.out.below hb6 HKQ.out.lt)
    have HG6 := Lib.hid (owns_below HOG.out hb6 (Nat.le_refl _))
    have HH6 := Lib.hid (owns_below HOH.out hb6 (Nat.le_refl _))
    have hgq : g ≠ q := fun e => HQ6.out.not_owned HG6.out (by decide) (by rw [← e]; rfl)
    have hhq : h ≠ q := fun e => HQ6.out.not_owned HH6.out (by decide) (by rw [← e]; rfl)
    have hgh : g ≠ h := fun e => owns_types HG6.out HH6.out (by decide) g rfl (by rw [e]; rfl)
    have hg1 : w1.heap.size ≤ g := (HG6.out.lt g rfl).1
    have hh1 : w1.heap.size ≤ h := (HH6.out.lt h rfl).1
    have hgc : M ≤ gc ∧ gc ≤ maxLen := by
      rcases HG6.out.2 with ⟨e, _⟩ | ⟨g', cap, cur, e, _, _, q1, q2, _⟩
      · cases e
      · simp only [Value.slice.injEq] at e
        obtain ⟨_, _, rfl⟩ := e
        exact ⟨q1, q2⟩
    unfold maxLen at hgc
    clear d0 d1 d2 hb6 HKc HRc HKQ HOG HOH HBw HWD
    have q0 : w6.cell? ⟨q, 0, none⟩ = some (.int .i64 V) := HQ6.out.cell 0 rfl
    have q1 : w6.cell? ⟨q, 1, none⟩ = some (.slice (some ⟨g, 0, none⟩) M gc) := HQ6.out.cell 1 rfl
    have q2 : w6.cell? ⟨q, 2, none⟩ = some (.slice (some ⟨h, 0, none⟩) N hc) := HQ6.out.cell 2 rfl
    obtain ⟨R, hR⟩ : ∃ R, R = row * W := ⟨_, rfl⟩
    have hRW : R + W ≤ M := by have := HIX.out row (W - 1) (by omega) (by omega); rw [← hR] at this; omega
    have e1 : (row : Int) * (W : Int) = (R : Int) := by rw [hR]; push_cast; rfl
    have e2 : ((row : Int) + 1) * (W : Int) = (R : Int) + (W : Int) := by rw [Int.add_mul, e1, Int.one_mul]
    have HRE := Lib.hid hR
    clear hR
    have hW0 : ¬ W = 0 := by omega
    go_upto_region 7 with fail
    rw [Nat.add_sub_cancel_left]
    have HIE := Lib.hid (show ∀ k, R + k = row * wdT t + k from fun k => by rw [HRE.out, HW.out])
    have hRc : R ≤ gc := by omega
    go_wp2_with fail
    go_loopw [47] (fun kv wr => ∃ (k : Nat) (cs : List Nat), kv = .int .i64 k ∧ k ≤ W ∧ Hid (wr.ownsRow w1.heap.size 100 1 (.slice (some ⟨g, 0, none⟩) M gc) M (cs.map F32)) ∧ Hid (Cnt (FA t row col k) M cs) ∧ Hid (Kept (· = g) w6 wr)) (fun kv _ => W + 1 - (intOf kv).toNat)
    case atStart => exact ⟨0, t.nums, rfl, Nat.zero_le _, HG6, Lib.hid (FA_zero ⟨HM.out, fun x _ => Mt.some' _⟩), Lib.hid (Kept.refl _ _)⟩
    case round =>
      obtain ⟨k, cs, rfl, hk, HO, HCN, HKP⟩ := hrel
      obtain ⟨wo, rfl⟩ : ∃ wo, wo = wr := ⟨wr, rfl⟩
      by_cases hlt : k < W
      · have hltI : (k : Int) < (W : Int) := by omega
        have hkw : k < wdT t := by rw [HW.out]; exact hlt
        have hx : R + k < M := by omega
        have hv := HCN.out.eq (x := R + k) hx (by rw [HIE.out]; exact FA_read hkw)
        obtain ⟨x, hxe⟩ : ∃ x, x = atT t row k := ⟨_, rfl⟩
        have hdv := HDV.out k hlt
        rw [← hxe] at hv hdv
        have c1 : wo.cell? ⟨g, R + k, none⟩ = some (.float .f32 x) := by
          rw [HO.out.cellAt (R + k) (by omega), List.getElem?_map, List.getElem?_eq_getElem (by rw [HCN.out.len]; exact hx)]
          rw [List.getD_eq_getElem?_getD, List.getElem?_eq_getElem (by rw [HCN.out.len]; exact hx)] at hv
          simp only [Option.getD_some] at hv
          rw [hv]
          rfl
        have c2 := HO.out.frozenAt (R + k)
        have hdiv := fun (X : World) => run_div_some (P := Tryz.prog) 100 hdv X
        obtain ⟨y, hy⟩ : ∃ y, y = divV x p := ⟨_, rfl⟩
        rw [← hy] at hdiv
        have HOS := Lib.hid (show (wo.setCell ⟨g, R + k, none⟩ (.float .f32 y)).ownsRow w1.heap.size 100 1 (.slice (some ⟨g, 0, none⟩) M gc) M ((cs.set (R + k) y).map F32) by
          rw [List.map_set]
          exact (HO.out.stored (R + k) (.float .f32 y)).1)
        have HCS := Lib.hid (show Cnt (FA t row col (k + 1)) M (cs.set (R + k) y) by
          rw [HIE.out, hy, hxe, ← HP.out]
          exact FA_step HCN.out hkw (by rw [← HIE.out]; exact hx))
        clear hxe hdv hv hy
        go_wp2_with fail
        go_roundw
        case rel => exact ⟨k + 1, cs.set (R + k) y, by go_num, by omega, HOS, HCS, Lib.hid (HKP.out.setCell (.inr rfl) _)⟩
        case measure => simp [intOf]; omega
      · obtain rfl : k = W := by omega
        have hcI : (col : Int) < (k : Int) := by omega
        have hx : R + col < M := by omega
        have hcw2 : col < wdT t := by rw [HW.out]; exact hcw
        have c1 : wo.cell? ⟨g, R + col, none⟩ = some (.float .f32 (cs.getD (R + col) 0)) := by
          have hl : R + col < cs.length := by rw [HCN.out.len]; exact hx
          rw [HO.out.cellAt (R + col) (by omega), List.getElem?_map, List.getElem?_eq_getElem hl, List.getD_eq_getElem?_getD, List.getElem?_eq_getElem hl]
          rfl
        have c2 := HO.out.frozenAt (R + col)
        go_upto_region 13 with fail
        refine wp_at fun w7 hw7 => ?_
        have HO7 := Lib.hid (show w7.ownsRow w1.heap.size 100 1 (.slice (some ⟨g, 0, none⟩) M gc) M ((cs.set (R + col) oneF).map F32) by
          subst hw7
          rw [List.map_set]
          exact (HO.out.stored (R + col) (.float .f32 oneF)).1)
        have HC7 := Lib.hid (show Cnt (FB t row col 0) M (cs.set (R + col) oneF) by
          rw [HIE.out]
          refine FB_zero (by omega) ?_ hcw2 (by rw [← HIE.out]; exact hx)
          rw [HW.out]
          exact HCN.out)
        have HK7 := Lib.hid (show Kept (· = g) w6 w7 by subst hw7; exact HKP.out.setCell (.inr rfl) _)
        obtain ⟨cs7, hcs7⟩ : ∃ l, l = cs.set (R + col) oneF := ⟨_, rfl⟩
        rw [← hcs7] at HO7 HC7
        clear hw7 c1 c2 hcs7 HO HCN HKP hx
        have hbg : w.heap.size ≠ g := by omega
        have hrg : w.heap.size + 1 ≠ g := by omega
        go_wp2_with fail
        go_loopw [13] (fun iv wr => ∃ (i : Nat) (cs : List Nat), iv = .int .i64 i ∧ i ≤ N + 1 ∧ Hid (wr.ownsRow w1.heap.size 100 1 (.slice (some ⟨g, 0, none⟩) M gc) M (cs.map F32)) ∧ Hid (Cnt (FB t row col i) M cs) ∧ Hid (Kept (· = g) w6 wr)) (fun iv _ => N + 2 - (intOf iv).toNat)
        case atStart => exact ⟨0, cs7, rfl, Nat.zero_le _, HO7, HC7, HK7⟩
        case round =>
          obtain ⟨i, cs, rfl, hi, HO, HCN, HKP⟩ := hrel
          obtain ⟨wi, rfl⟩ : ∃ wi, wi = wr := ⟨wr, rfl⟩
          have HKi := Lib.hid (HK6.out.kept HKP.out hbg)
          have d2 : wi.cell? ⟨w.heap.size, 2, none⟩ = some (.slice b N d) := HKi.out.cell 2 rfl
          by_cases hin : i ≤ N
          · have hinI : (i : Int) ≤ (N : Int) := by omega
            by_cases hir : i = row
            · subst hir
              have hee : ((i : Int) == (i : Int)) = true := by simp
              go_wp2_with fail
              go_roundw
              case rel => exact ⟨i + 1, cs, by go_num, by omega, HO, Lib.hid (FB_skip HCN.out), HKP⟩
              case measure => simp [intOf]; omega
            · have hee : ((i : Int) == (row : Int)) = false := by rw [beq_eq_false_iff_ne]; omega
              have HQi := Lib.hid (HQ6.out.kept HKP.out (fun e => hgq e.symm))
              have q0 : wi.cell? ⟨q, 0, none⟩ = some (.int .i64 V) := HQi.out.cell 0 rfl
              have q1 : wi.cell? ⟨q, 1, none⟩ = some (.slice (some ⟨g, 0, none⟩) M gc) := HQi.out.cell 1 rfl
              have q2 : wi.cell? ⟨q, 2, none⟩ = some (.slice (some ⟨h, 0, none⟩) N hc) := HQi.out.cell 2 rfl
              obtain ⟨I0, hI⟩ : ∃ R, R = i * k := ⟨_, rfl⟩
              have hIW : I0 + k ≤ M := by have := HIX.out i (k - 1) (by omega) (by omega); rw [← hI] at this; omega
              have e1 : (i : Int) * (k : Int) = (I0 : Int) := by rw [hI]; push_cast; rfl
              have e2 : ((i : Int) + 1) * (k : Int) = (I0 : Int) + (k : Int) := by rw [Int.add_mul, e1, Int.one_mul]
              have HIE2 := Lib.hid (show ∀ j, I0 + j = i * wdT t + j from fun j => by rw [hI, HW.out])
              have hIc : I0 ≤ gc := by omega
              clear hI
              obtain ⟨f, hf⟩ : ∃ f, f = atT t i col := ⟨_, rfl⟩
              have hxf : I0 + col < M := by omega
              have hvf := HCN.out.eq (x := I0 + col) hxf (by rw [HIE2.out]; exact FB_read hcw2 hir)
              rw [← hf] at hvf
              have c1 : wi.cell? ⟨g, I0 + col, none⟩ = some (.float .f32 f) := by
                have hl : I0 + col < cs.length := by rw [HCN.out.len]; exact hxf
                rw [HO.out.cellAt (I0 + col) (by omega), List.getElem?_map, List.getElem?_eq_getElem hl]
                rw [List.getD_eq_getElem?_getD, List.getElem?_eq_getElem hl] at hvf
                simp only [Option.getD_some] at hvf
                rw [hvf]
                rfl
              have HF := Lib.hid hf
              clear hf hvf
              go_upto_region 19 with fail
              rw [Nat.add_sub_cancel_left]
              go_wp2_with fail
              go_loopw [87] (fun jv wr => ∃ (j : Nat) (cs : List Nat), jv = .int .i64 j ∧ j ≤ k ∧ Hid (wr.ownsRow w1.heap.size 100 1 (.slice (some ⟨g, 0, none⟩) M gc) M (cs.map F32)) ∧ Hid (Cnt (FC t row col i j) M cs) ∧ Hid (Kept (· = g) w6 wr)) (fun jv _ => k + 1 - (intOf jv).toNat)
              case atStart => exact ⟨0, cs, rfl, Nat.zero_le _, HO, Lib.hid (FC_zero HCN.out), HKP⟩
              case round =>
                obtain ⟨j, cj, rfl, hj, HOj, HCj, HKj⟩ := hrel
                obtain ⟨wj, rfl⟩ : ∃ wj, wj = wr := ⟨wr, rfl⟩
                by_cases hjk : j < k
                · have hjI : (j : Int) < (k : Int) := by omega
                  have hjw : j < wdT t := by rw [HW.out]; exact hjk
                  have hx1 : I0 + j < M := by omega
                  have hx2 : R + j < M := by omega
                  have v1 := HCj.out.eq (x := I0 + j) hx1 (by rw [HIE2.out]; exact FC_read hjw hir)
                  have v2 := HCj.out.eq (x := R + j) hx2 (by rw [HIE.out]; exact FC_own hjw hir)
                  obtain ⟨x, hx⟩ : ∃ x, x = atT t i j := ⟨_, rfl⟩
                  obtain ⟨o, ho⟩ : ∃ x, x = ownV t row col j := ⟨_, rfl⟩
                  rw [← hx] at v1
                  rw [← ho] at v2
                  have g1 : wj.cell? ⟨g, I0 + j, none⟩ = some (.float .f32 x) := by
                    have hl : I0 + j < cj.length := by rw [HCj.out.len]; exact hx1
                    rw [HOj.out.cellAt (I0 + j) (by omega), List.getElem?_map, List.getElem?_eq_getElem hl]
                    rw [List.getD_eq_getElem?_getD, List.getElem?_eq_getElem hl] at v1
                    simp only [Option.getD_some] at v1
                    rw [v1]
                    rfl
                  have g2 : wj.cell? ⟨g, R + j, none⟩ = some (.float .f32 o) := by
                    have hl : R + j < cj.length := by rw [HCj.out.len]; exact hx2
                    rw [HOj.out.cellAt (R + j) (by omega), List.getElem?_map, List.getElem?_eq_getElem hl]
                    rw [List.getD_eq_getElem?_getD, List.getElem?_eq_getElem hl] at v2
                    simp only [Option.getD_some] at v2
                    rw [v2]
                    rfl
                  have g3 := HOj.out.frozenAt (I0 + j)
                  have hmul := fun (X : World) => run_mul_all (P := Tryz.prog) 100 f o X
                  have hsub := fun (m : Nat) (X : World) => run_sub_all (P := Tryz.prog) 100 x m X
                  have HRAW := Lib.hid (show ∀ X Y, Mt (rawO t row col i j) (subV x (mulV f o X) Y) from fun X Y => by
                    unfold rawO
                    rw [← HF.out, ← ho, ← hx]
                    exact mt_rest x f o X Y)
                  clear hx ho v1 v2
                  go_wp2_with fail
                  go_region_with (fail)
                  all_goals
                    generalize hbv : subV x (mulV f o wj.drew) (wj.drewN (1 + mulD f o)) = bv
                    have HBV := Lib.hid (show Mt (rawO t row col i j) bv by rw [← hbv]; exact HRAW.out _ _)
                    generalize hwt : wj.drewN (1 + mulD f o + subD x (mulV f o wj.drew)) = wt
                    have HOt := Lib.hid (show wt.ownsRow w1.heap.size 100 1 (.slice (some ⟨g, 0, none⟩) M gc) M (cj.map F32) by rw [← hwt]; exact HOj.out)
                    have HKt := Lib.hid (show Kept (· = g) w6 wt by rw [← hwt]; exact HKj.out.drewN _)
                    clear hbv hwt hmul hsub g1 g2 g3 HRAW
                    go_wp2_with fail
                    go_roundw
                    case rel => exact ⟨j + 1, cj.set (I0 + j) bv, by go_num, by omega, Lib.hid (by rw [List.map_set]; exact (HOt.out.stored (I0 + j) (.float .f32 bv)).1), Lib.hid (by rw [HIE2.out]; exact FC_step HCj.out hjw (by rw [← HIE2.out]; exact hx1) HBV.out), Lib.hid (HKt.out.setCell (.inr rfl) _)⟩
                    case measure => simp [intOf]; omega
                · obtain rfl : j = k := by omega
                  have hxf2 : I0 + col < cj.length := by rw [HCj.out.len]; exact hxf
                  have g1 : wj.cell? ⟨g, I0 + col, none⟩ = some (.float .f32 (cj.getD (I0 + col) 0)) := by
                    rw [HOj.out.cellAt (I0 + col) (by omega), List.getElem?_map, List.getElem?_eq_getElem hxf2, List.getD_eq_getElem?_getD, List.getElem?_eq_getElem hxf2]
                    rfl
                  have g3 := HOj.out.frozenAt (I0 + col)
                  go_wp2_with fail
                  go_roundw
                  case rel => exact ⟨i + 1, cj.set (I0 + col) 0, by go_num, by omega, Lib.hid (by rw [List.map_set]; exact (HOj.out.stored (I0 + col) (.float .f32 0)).1), Lib.hid (by rw [HIE2.out]; exact FB_next (by omega) (by rw [HW.out]; exact HCj.out) hcw2 (by rw [← HIE2.out]; exact hxf) hir), Lib.hid (HKj.out.setCell (.inr rfl) _)⟩
                  case measure => simp [intOf]; omega
          · obtain rfl : i = N + 1 := by omega
            have HQi := Lib.hid (HQ6.out.kept HKP.out (fun e => hgq e.symm))
            have q0 : wi.cell? ⟨q, 0, none⟩ = some (.int .i64 V) := HQi.out.cell 0 rfl
            have q1 : wi.cell? ⟨q, 1, none⟩ = some (.slice (some ⟨g, 0, none⟩) M gc) := HQi.out.cell 1 rfl
            have q2 : wi.cell? ⟨q, 2, none⟩ = some (.slice (some ⟨h, 0, none⟩) N hc) := HQi.out.cell 2 rfl
            have HHi := Lib.hid (owns_kept HH6.out HKP.out (fun b e1 e2 => hgh (by have : h = b := Option.some.inj e1; omega)))
            have hrN : (row : Int) < (N : Int) := by omega
            have hrl : row < t.basis.length := by rw [HN.out]; exact hr
            have g1 : wi.cell? ⟨h, row, none⟩ = some (.int .i64 (t.basis.getD row 0)) := by
              rw [HHi.out.cellAt row (by omega), List.getElem?_map, List.getElem?_eq_getElem hrl, List.getD_eq_getElem?_getD, List.getElem?_eq_getElem hrl]
              rfl
            have g3 := HHi.out.frozenAt row
            go_upto_region 26 with fail
            refine wp_at fun w8 hw8 => ?_
            have HQ8 := Lib.hid (show Blk w8 q 258 #[.int .i64 V, .slice (some ⟨g, 0, none⟩) M gc, .slice (some ⟨h, 0, none⟩) N hc] by subst hw8; exact HQi.out.other (fun e => hhq e.symm) _)
            have HO8 := Lib.hid (show w8.ownsRow w1.heap.size 100 1 (.slice (some ⟨g, 0, none⟩) M gc) M (cs.map F32) by
              subst hw8
              exact owns_kept HO.out (Kept.setCell (S := fun b => b = h) (Kept.refl _ wi) (p := ⟨h, row, none⟩) (.inr rfl) _) (fun b e1 e2 => hgh (by have : g = b := Option.some.inj e1; omega)))
            have HH8 := Lib.hid (show w8.ownsRow w1.heap.size 2 1 (.slice (some ⟨h, 0, none⟩) N hc) N ((pivB t row col).map I64) by
              subst hw8
              unfold pivB
              rw [List.map_set]
              exact (HHi.out.stored row (.int .i64 col)).1)
            have HK8 := Lib.hid (show Kept (fun b => b = g ∨ b = h) w6 w8 by subst hw8; exact (HKP.out.mono (fun _ _ e => .inl e)).setCell (.inr (.inr rfl)) _)
            clear hw8 q0 q1 q2 g1 g3 d2 HHi HQi
            have HC8 := Lib.hid (show Cnt (FE t row col) t.nums.length cs by
              refine FE_end HD.out ?_
              rw [HN.out, HM.out]
              exact HCN.out)
            obtain ⟨ok, hok⟩ : ∃ ok, ok = pivOk t row col := ⟨_, rfl⟩
            have hlB : (pivB t row col).length = N := by rw [pivB_len]; exact HN.out
            have hlC : cs.length = M := by have := HC8.out.len; rw [HM.out] at this; exact this
            have HVT := Lib.hid (show Calls Tryz.prog 335 #[.agg #[.int .i64 V, .slice (some ⟨g, 0, none⟩) M gc, .slice (some ⟨h, 0, none⟩) N hc]] w8 fun e w' => e = .returned (.bool ok) ∧ Below w8.heap.size w8 w' from by
              have hrd : RdTb w8 (.agg #[.int .i64 V, .slice (some ⟨g, 0, none⟩) M gc, .slice (some ⟨h, 0, none⟩) N hc]) ⟨V, cs, pivB t row col⟩ := ⟨_, _, rfl, slc_of_owns HO8.out, slc_of_owns HH8.out⟩
              have hdm : DimT ⟨V, cs, pivB t row col⟩ := by
                have hd := HD.out
                refine ⟨hv1, hv8, ?_, ?_, ?_⟩
                · show 1 ≤ (pivB t row col).length; rw [hlB]; omega
                · show (pivB t row col).length ≤ 8; rw [hlB]; exact hb8
                · show cs.length = (V + (pivB t row col).length + 1) * ((pivB t row col).length + 1)
                  rw [hlC, hlB, HMW.out, ← HW.out]
                  unfold wdT
                  rw [HV.out, HN.out]
              have := validT_any _ ⟨V, cs, pivB t row col⟩ w8 hrd hdm
              rw [show (allFin (TabD.mk V cs (pivB t row col)).nums && basOk (colsT ⟨V, cs, pivB t row col⟩) (TabD.mk V cs (pivB t row col)).basis) = ok from by
                rw [hok]
                show (allFin cs && basOk (V + (pivB t row col).length) (pivB t row col)) = _
                unfold pivOk
                rw [FE_fin HC8.out, hlB]
                unfold colsT
                rw [HV.out, HN.out]] at this
              exact this)
            have HOK := Lib.hid hok
            have HRD := Lib.hid (show ok = true → cs = (pivT t row col).nums from fun h => FE_is HC8.out (by
              rw [hok] at h
              unfold pivOk at h
              rw [Bool.and_eq_true] at h
              exact h.1))
            have HR8 := Lib.hid (HR6.out.kept HK8.out (by rintro (e | e) <;> omega))
            have HB8 := Lib.hid (HB6.out.trans (HK8.out.toBelow HB6.out.size (by rintro b e1 (e | e) <;> omega)))
            have q0 : w8.cell? ⟨q, 0, none⟩ = some (.int .i64 V) := HQ8.out.cell 0 rfl
            have q1 : w8.cell? ⟨q, 1, none⟩ = some (.slice (some ⟨g, 0, none⟩) M gc) := HQ8.out.cell 1 rfl
            have q2 : w8.cell? ⟨q, 2, none⟩ = some (.slice (some ⟨h, 0, none⟩) N hc) := HQ8.out.cell 2 rfl
            have hbase : w.heap.size + 2 ≤ w1.heap.size := hz12
            clear hok hlC
            cases ok
            · go_upto_region 27 with (go_at_call 335; refine HVT.out.mono ?_; rintro e w9 ⟨rfl, hb9⟩)
              have HR9 := Lib.hid (HR8.out.below hb9 HR8.out.lt)
              have r0 := HR9.out.cell 0 rfl
              have r1 := HR9.out.cell 1 rfl
              have r2 := HR9.out.cell 2 rfl
              have s0 := HR9.out.free 0
              have s1 := HR9.out.free 1
              have s2 := HR9.out.free 2
              have HB9 := Lib.hid (HB8.out.trans (hb9.mono HB8.out.size))
              have FIN := Lib.hid (show ∀ Wf, Kept (· = w.heap.size + 1) w9 Wf → Below w.heap.size w Wf from fun Wf hk => HB9.out.trans (hk.toBelow HB9.out.size (by intro k h1 h2; omega)))
              go_wp2_with fail
              refine bodyPost_ret (v := .tuple #[.agg #[.int .i64 0, .slice none 0 0, .slice none 0 0], .bool false]) (by simp [results, Tryz.results333, go_sem, *]) rfl ⟨_, by rw [← HOK.out], (fun _ => rfl), (fun h => by rw [← HOK.out] at h; cases h), FIN.out _ ?_⟩
              repeat' first | exact Kept.refl _ _ | refine Kept.setCell ?_ (.inr (by simp)) _
            · go_upto_region 28 with (go_at_call 335; refine HVT.out.mono ?_; rintro e w9 ⟨rfl, hb9⟩)
              have HR9 := Lib.hid (HR8.out.below hb9 HR8.out.lt)
              have HQ9 := Lib.hid (HQ8.out.below hb9 HQ8.out.lt)
              have HO9 := Lib.hid (owns_below HO8.out hb9 (Nat.le_refl _))
              have HH9 := Lib.hid (owns_below HH8.out hb9 (Nat.le_refl _))
              clear q0 q1 q2
              have q0 : w9.cell? ⟨q, 0, none⟩ = some (.int .i64 V) := HQ9.out.cell 0 rfl
              have q1 : w9.cell? ⟨q, 1, none⟩ = some (.slice (some ⟨g, 0, none⟩) M gc) := HQ9.out.cell 1 rfl
              have q2 : w9.cell? ⟨q, 2, none⟩ = some (.slice (some ⟨h, 0, none⟩) N hc) := HQ9.out.cell 2 rfl
              have r0 := HR9.out.cell 0 rfl
              have r1 := HR9.out.cell 1 rfl
              have r2 := HR9.out.cell 2 rfl
              have s0 := HR9.out.free 0
              have s1 := HR9.out.free 1
              have s2 := HR9.out.free 2
              have HB9 := Lib.hid (HB8.out.trans (hb9.mono HB8.out.size))
              have FIN := Lib.hid (show ∀ Wf, Kept (· = w.heap.size + 1) w9 Wf → (pivOk t row col = true → ∀ Wg, Kept (· < w.heap.size) Wf Wg → RdTb Wg (.agg #[.int .i64 V, .slice (some ⟨g, 0, none⟩) M gc, .slice (some ⟨h, 0, none⟩) N hc]) (pivT t row col)) ∧ Below w.heap.size w Wf from fun Wf hk => by
                refine ⟨fun _ Wg hkg => ?_, HB9.out.trans (hk.toBelow HB9.out.size (by intro k h1 h2; omega))⟩
                refine ⟨.slice (some ⟨g, 0, none⟩) M gc, .slice (some ⟨h, 0, none⟩) N hc, ?_, ?_, ?_⟩
                · show _ = Value.agg #[.int .i64 (t.vars : Nat), _, _]
                  rw [HV.out]
                · have h1 := owns_kept HO9.out hk (fun b e1 e2 => by have : g = b := Option.some.inj e1; omega)
                  rw [HRD.out trivial] at h1
                  exact slc_of_owns (owns_kept h1 hkg (fun b e1 e2 => by have : g = b := Option.some.inj e1; omega))
                · have h1 := owns_kept HH9.out hk (fun b e1 e2 => by have : h = b := Option.some.inj e1; omega)
                  exact slc_of_owns (owns_kept h1 hkg (fun b e1 e2 => by have : h = b := Option.some.inj e1; omega)))
              go_wp2_with fail
              refine bodyPost_ret (v := .tuple #[.agg #[.int .i64 V, .slice (some ⟨g, 0, none⟩) M gc, .slice (some ⟨h, 0, none⟩) N hc], .bool true]) (by simp [results, Tryz.results333, go_sem, *]) rfl ⟨_, by rw [← HOK.out], (fun h => by rw [← HOK.out] at h; cases h), FIN.out _ ?_⟩
              repeat' first | exact Kept.refl _ _ | refine Kept.setCell ?_ (.inr (by simp)) _
end Go.Proofs.YtgkbbpajkbkgnaaGreatDoor
