/-
  FnJournal: texts joined: SameD, SameDD, ValidD, ValidD2, Cities, CitiesM, AreCit, Fin.
-/
import Derived.Test.YtgkbbpajkbkgnaaGreatDoorMFnJournalAC
import Derived.Test.YtgkbbpajkbkgnaaGreatDoorMFnJournalAD
set_option linter.unusedVariables false
set_option linter.unusedSimpArgs false
namespace Go.Proofs.YtgkbbpajkbkgnaaGreatDoor
open Go.RowKit
def sameD (d e : DeskD) : Bool := sameR d.rows e.rows && (decide (d.sizes = e.sizes) && (sameJs d.jobs e.jobs && decide (d.ways = e.ways)))
theorem sameNumbers_b (q : Bool) (v v' : Value) (xs ys : List Nat) (w : World) (h : RdF w v xs) (h' : RdF w v' ys) (hq : sameF xs ys = q) :
    Calls Tryz.prog 133 #[v, v'] w fun e w' => e = .returned (.bool q) ∧ Below w.heap.size w w' := by
  subst hq
  refine (sameNumbers_any v v' xs ys w h h').mono ?_
  rintro e w' ⟨rfl, n, rfl⟩
  exact ⟨rfl, below_drewN (Below.refl _ _) n⟩
theorem equalI_b (q : Bool) (v v' : Value) (xs ys : List Int) (w : World) (h : RdI w v xs) (h' : RdI w v' ys) (hq : decide (xs = ys) = q) :
    Calls Tryz.prog 79 #[v, v'] w fun e w' => e = .returned (.bool q) ∧ Below w.heap.size w w' := by
  subst hq
  refine (slicesEqual_rd v v' xs ys w h h').mono ?_
  rintro e w' ⟨rfl, n, rfl⟩
  exact ⟨rfl, below_drewN (Below.refl _ _) n⟩
theorem equalJ_b (q : Bool) (v v' : Value) (xs ys : List JobD) (w : World) (h : RdJ w v xs) (h' : RdJ w v' ys) (hq : sameJs xs ys = q) :
    Calls Tryz.prog 80 #[v, v'] w fun e w' => e = .returned (.bool q) ∧ Below w.heap.size w w' := by
  subst hq
  refine (equalJ_any v v' xs ys w h h').mono ?_
  rintro e w' ⟨rfl, n, rfl⟩
  exact ⟨rfl, below_drewN (Below.refl _ _) n⟩
set_option maxHeartbeats 4000000 in
set_option maxRecDepth 4000 in
theorem implSameRows_any (v v' : Value) (r s : RowsD) (w : World) (h : RdR w v r) (h' : RdR w v' s) :
    Calls Tryz.prog 78 #[v, v'] w fun e w' => e = .returned (.bool (sameR r s)) ∧ Below w.heap.size w w' := by
  obtain ⟨a1, c1, a2, c2, a3, c3, rfl⟩ := h.shape
  obtain ⟨b1, e1, b2, e2, b3, e3, rfl⟩ := h'.shape
  obtain ⟨f1, f2, f3⟩ := h.parts
  obtain ⟨g1, g2, g3⟩ := h'.parts
  have P1 := Lib.hid f1
  have P2 := Lib.hid f2
  have P3 := Lib.hid f3
  have Q1 := Lib.hid g1
  have Q2 := Lib.hid g2
  have Q3 := Lib.hid g3
  obtain ⟨k1, hk1⟩ : ∃ k, sameF r.nums s.nums = k := ⟨_, rfl⟩
  obtain ⟨k2, hk2⟩ : ∃ k, sameF r.bnds s.bnds = k := ⟨_, rfl⟩
  obtain ⟨k3, hk3⟩ : ∃ k, sameF r.gains s.gains = k := ⟨_, rfl⟩
  have K1 := Lib.hid hk1
  have K2 := Lib.hid hk2
  have K3 := Lib.hid hk3
  have HS := Lib.hid (show sameR r s = ((r.vars == s.vars) && (k1 && (k2 && k3))) by unfold sameR; rw [hk1, hk2, hk3])
  clear h h' f1 f2 f3 g1 g2 g3 hk1 hk2 hk3
  cases hv : (r.vars == s.vars)
  · have HN := Lib.hid (show sameR r s = false by rw [HS.out, hv]; rfl)
    go_enter Tryz.func78, Tryz.ntmps78
    go_wp2_with fail
    go_ret
    refine ⟨by rw [HN.out]; rfl, ?_⟩
    (repeat' first | exact Below.refl _ _ | assumption | refine Below.alloc ?_ ?_ _ | refine Below.setCell ?_ ?_ _ | refine Below.drew ?_ | (simp; done) | (simp; omega))
  go_enter Tryz.func78, Tryz.ntmps78
  go_wp2_with fail
  refine Calls.at fun W hW => ?_
  have HB := Lib.hid (show Below w.heap.size w W by subst hW; (repeat' first | exact Below.refl _ _ | assumption | refine Below.alloc ?_ ?_ _ | refine Below.setCell ?_ ?_ _ | refine Below.drew ?_ | (simp; done) | (simp; omega)))
  have HK := Lib.hid (show Blk W w.heap.size 26 #[.int .i64 r.vars, .slice a1 r.nums.length c1, .slice a2 r.bnds.length c2, .slice a3 r.gains.length c3] by subst hW; exact (Blk.new _ _ _).alloc _)
  have HM := Lib.hid (show Blk W (w.heap.size + 1) 26 #[.int .i64 s.vars, .slice b1 s.nums.length e1, .slice b2 s.bnds.length e2, .slice b3 s.gains.length e3] by subst hW; simpa using Blk.new (w.alloc (.cells #[.int .i64 r.vars, .slice a1 r.nums.length c1, .slice a2 r.bnds.length c2, .slice a3 r.gains.length c3] 26)) 26 #[.int .i64 s.vars, .slice b1 s.nums.length e1, .slice b2 s.bnds.length e2, .slice b3 s.gains.length e3])
  clear hW
  refine (sameNumbers_b _ _ _ r.nums s.nums W (P1.out.up HB.out (Nat.le_refl _)) (Q1.out.up HB.out (Nat.le_refl _)) K1.out).mono ?_
  rintro e w1 ⟨rfl, hb1⟩
  have HB1 := Lib.hid (HB.out.trans (hb1.mono HB.out.size))
  have HK1 := Lib.hid (HK.out.below hb1 HK.out.lt)
  have HM1 := Lib.hid (HM.out.below hb1 HM.out.lt)
  clear hb1
  cases k1
  · have HN := Lib.hid (show sameR r s = false by rw [HS.out, hv]; rfl)
    go_wp2_with fail
    go_ret
    exact ⟨by rw [HN.out]; rfl, HB1.out⟩
  have x2 : w1.cell? ⟨w.heap.size, 2, none⟩ = some (.slice a2 r.bnds.length c2) := HK1.out.cell 2 rfl
  have y2 : w1.cell? ⟨w.heap.size + 1, 2, none⟩ = some (.slice b2 s.bnds.length e2) := HM1.out.cell 2 rfl
  go_wp2_with fail
  refine (sameNumbers_b _ _ _ r.bnds s.bnds w1 (P2.out.up HB1.out (Nat.le_refl _)) (Q2.out.up HB1.out (Nat.le_refl _)) K2.out).mono ?_
  rintro e w2 ⟨rfl, hb2⟩
  have HB2 := Lib.hid (HB1.out.trans (hb2.mono HB1.out.size))
  have HK2 := Lib.hid (HK1.out.below hb2 HK1.out.lt)
  have HM2 := Lib.hid (HM1.out.below hb2 HM1.out.lt)
  clear hb2 x2 y2
  cases k2
  · have HN := Lib.hid (show sameR r s = false by rw [HS.out, hv]; rfl)
    go_wp2_with fail
    go_ret
    exact ⟨by rw [HN.out]; rfl, HB2.out⟩
  have HN := Lib.hid (show sameR r s = k3 by rw [HS.out, hv]; rfl)
  have x3 : w2.cell? ⟨w.heap.size, 3, none⟩ = some (.slice a3 r.gains.length c3) := HK2.out.cell 3 rfl
  have y3 : w2.cell? ⟨w.heap.size + 1, 3, none⟩ = some (.slice b3 s.gains.length e3) := HM2.out.cell 3 rfl
  go_wp2_with fail
  refine (sameNumbers_b _ _ _ r.gains s.gains w2 (P3.out.up HB2.out (Nat.le_refl _)) (Q3.out.up HB2.out (Nat.le_refl _)) K3.out).mono ?_
  rintro e w3 ⟨rfl, hb3⟩
  have HB3 := Lib.hid (HB2.out.trans (hb3.mono HB2.out.size))
  clear hb3 x3 y3
  go_wp2_with fail
  go_ret
  exact ⟨by rw [HN.out]; rfl, HB3.out⟩
end Go.Proofs.YtgkbbpajkbkgnaaGreatDoor

namespace Go.Proofs.YtgkbbpajkbkgnaaGreatDoor
open Go.RowKit
theorem implSameRows_b (q : Bool) (v v' : Value) (r s : RowsD) (w : World) (h : RdR w v r) (h' : RdR w v' s) (hq : sameR r s = q) :
    Calls Tryz.prog 78 #[v, v'] w fun e w' => e = .returned (.bool q) ∧ Below w.heap.size w w' := by
  subst hq
  exact implSameRows_any v v' r s w h h'
set_option maxHeartbeats 4000000 in
set_option maxRecDepth 4000 in
theorem implSameDesk_any (v v' : Value) (x y : DeskD) (w : World) (h : RdD w v x) (h' : RdD w v' y) :
    Calls Tryz.prog 27 #[v, v'] w fun e w' => e = .returned (.bool (sameD x y)) ∧ Below w.heap.size w w' := by
  obtain ⟨a1, c1, a2, c2, a3, c3, a4, c4, a5, c5, a6, c6, rfl⟩ := h.shape
  obtain ⟨b1, e1, b2, e2, b3, e3, b4, e4, b5, e5, b6, e6, rfl⟩ := h'.shape
  obtain ⟨f1, f2, f3, f4⟩ := h.parts
  obtain ⟨g1, g2, g3, g4⟩ := h'.parts
  have hmj := f3.len
  simp only [maxLen] at hmj
  have P1 := Lib.hid f1
  have P2 := Lib.hid f2
  have P3 := Lib.hid f3
  have P4 := Lib.hid f4
  have Q1 := Lib.hid g1
  have Q2 := Lib.hid g2
  have Q3 := Lib.hid g3
  have Q4 := Lib.hid g4
  obtain ⟨k1, hk1⟩ : ∃ k, sameR x.rows y.rows = k := ⟨_, rfl⟩
  obtain ⟨k2, hk2⟩ : ∃ k, decide (x.sizes = y.sizes) = k := ⟨_, rfl⟩
  obtain ⟨k3, hk3⟩ : ∃ k, sameJs x.jobs y.jobs = k := ⟨_, rfl⟩
  obtain ⟨k4, hk4⟩ : ∃ k, decide (x.ways = y.ways) = k := ⟨_, rfl⟩
  have K1 := Lib.hid hk1
  have K2 := Lib.hid hk2
  have K3 := Lib.hid hk3
  have K4 := Lib.hid hk4
  have HS := Lib.hid (show sameD x y = (k1 && (k2 && (k3 && k4))) by unfold sameD; rw [hk1, hk2, hk3, hk4])
  clear h h' f1 f2 f3 f4 g1 g2 g3 g4 hk1 hk2 hk3 hk4
  go_enter Tryz.func27, Tryz.ntmps27
  go_wp2_with fail
  refine Calls.at fun W hW => ?_
  have HB0 := Lib.hid (show Below w.heap.size w W by subst hW; (repeat' first | exact Below.refl _ _ | assumption | refine Below.alloc ?_ ?_ _ | refine Below.setCell ?_ ?_ _ | refine Below.drew ?_ | (simp; done) | (simp; omega)))
  have HK0 := Lib.hid (show Blk W w.heap.size 30 #[.int .i64 x.rows.vars, .slice a1 x.rows.nums.length c1, .slice a2 x.rows.bnds.length c2, .slice a3 x.rows.gains.length c3, .slice a4 x.sizes.length c4, .slice a5 x.jobs.length c5, .slice a6 x.ways.length c6] by subst hW; exact (Blk.new _ _ _).alloc _)
  have HM0 := Lib.hid (show Blk W (w.heap.size + 1) 30 #[.int .i64 y.rows.vars, .slice b1 y.rows.nums.length e1, .slice b2 y.rows.bnds.length e2, .slice b3 y.rows.gains.length e3, .slice b4 y.sizes.length e4, .slice b5 y.jobs.length e5, .slice b6 y.ways.length e6] by subst hW; simpa using Blk.new (w.alloc (.cells #[.int .i64 x.rows.vars, .slice a1 x.rows.nums.length c1, .slice a2 x.rows.bnds.length c2, .slice a3 x.rows.gains.length c3, .slice a4 x.sizes.length c4, .slice a5 x.jobs.length c5, .slice a6 x.ways.length c6] 30)) 30 #[.int .i64 y.rows.vars, .slice b1 y.rows.nums.length e1, .slice b2 y.rows.bnds.length e2, .slice b3 y.rows.gains.length e3, .slice b4 y.sizes.length e4, .slice b5 y.jobs.length e5, .slice b6 y.ways.length e6])
  clear hW
  refine (implSameRows_b _ _ _ x.rows y.rows W (P1.out.up HB0.out (Nat.le_refl _)) (Q1.out.up HB0.out (Nat.le_refl _)) K1.out).mono ?_
  rintro e w1 ⟨rfl, hb1⟩
  have HB1 := Lib.hid (HB0.out.trans (hb1.mono HB0.out.size))
  have HK1 := Lib.hid (HK0.out.below hb1 HK0.out.lt)
  have HM1 := Lib.hid (HM0.out.below hb1 HM0.out.lt)
  clear hb1
  cases k1
  · have HN := Lib.hid (show sameD x y = false by rw [HS.out]; simp)
    go_wp2_with fail
    go_ret
    exact ⟨by rw [HN.out]; rfl, HB1.out⟩
  have x2 : w1.cell? ⟨w.heap.size, 4, none⟩ = some (.slice a4 x.sizes.length c4) := HK1.out.cell 4 rfl
  have y2 : w1.cell? ⟨w.heap.size + 1, 4, none⟩ = some (.slice b4 y.sizes.length e4) := HM1.out.cell 4 rfl
  go_wp2_with fail
  refine (equalI_b _ _ _ x.sizes y.sizes w1 (P2.out.up HB1.out (Nat.le_refl _)) (Q2.out.up HB1.out (Nat.le_refl _)) K2.out).mono ?_
  rintro e w2 ⟨rfl, hb2⟩
  have HB2 := Lib.hid (HB1.out.trans (hb2.mono HB1.out.size))
  have HK2 := Lib.hid (HK1.out.below hb2 HK1.out.lt)
  have HM2 := Lib.hid (HM1.out.below hb2 HM1.out.lt)
  clear hb2 x2 y2
  cases k2
  · have HN := Lib.hid (show sameD x y = false by rw [HS.out]; simp)
    go_wp2_with fail
    go_ret
    exact ⟨by rw [HN.out]; rfl, HB2.out⟩
  have x3 : w2.cell? ⟨w.heap.size, 5, none⟩ = some (.slice a5 x.jobs.length c5) := HK2.out.cell 5 rfl
  have y3 : w2.cell? ⟨w.heap.size + 1, 5, none⟩ = some (.slice b5 y.jobs.length e5) := HM2.out.cell 5 rfl
  go_wp2_with fail
  refine (equalJ_b _ _ _ x.jobs y.jobs w2 (P3.out.up HB2.out (Nat.le_refl _)) (Q3.out.up HB2.out (Nat.le_refl _)) K3.out).mono ?_
  rintro e w3 ⟨rfl, hb3⟩
  have HB3 := Lib.hid (HB2.out.trans (hb3.mono HB2.out.size))
  have HK3 := Lib.hid (HK2.out.below hb3 HK2.out.lt)
  have HM3 := Lib.hid (HM2.out.below hb3 HM2.out.lt)
  clear hb3 x3 y3
  cases k3
  · have HN := Lib.hid (show sameD x y = false by rw [HS.out]; simp)
    go_wp2_with fail
    go_ret
    exact ⟨by rw [HN.out]; rfl, HB3.out⟩
  have x4 : w3.cell? ⟨w.heap.size, 6, none⟩ = some (.slice a6 x.ways.length c6) := HK3.out.cell 6 rfl
  have y4 : w3.cell? ⟨w.heap.size + 1, 6, none⟩ = some (.slice b6 y.ways.length e6) := HM3.out.cell 6 rfl
  go_wp2_with fail
  refine (equalI_b _ _ _ x.ways y.ways w3 (P4.out.up HB3.out (Nat.le_refl _)) (Q4.out.up HB3.out (Nat.le_refl _)) K4.out).mono ?_
  rintro e w4 ⟨rfl, hb4⟩
  have HB4 := Lib.hid (HB3.out.trans (hb4.mono HB3.out.size))
  have HK4 := Lib.hid (HK3.out.below hb4 HK3.out.lt)
  have HM4 := Lib.hid (HM3.out.below hb4 HM3.out.lt)
  clear hb4 x4 y4
  have HN := Lib.hid (show sameD x y = k4 by rw [HS.out]; simp)
  go_wp2_with fail
  go_ret
  exact ⟨by rw [HN.out]; rfl, HB4.out⟩
end Go.Proofs.YtgkbbpajkbkgnaaGreatDoor

namespace Go.Proofs.YtgkbbpajkbkgnaaGreatDoor
open Go.RowKit
def jobB (j : JobD) : Bool := inB 1 1000 j.long && (inB 0 100000 j.due && (inB 0 100000 j.ready && inB 0 1000 j.weight))
def areJobsB (js : List JobD) : Bool := inB 1 12 js.length && allB js.length (fun i => jobB (js.getD i J0))
set_option maxHeartbeats 2000000 in
set_option maxRecDepth 4000 in
theorem AreJobs_any (v : Value) (js : List JobD) (w : World) (h : RdJ w v js) :
    Calls Tryz.prog 51 #[v] w fun e w' => e = .returned (.bool (areJobsB js)) ∧ Below w.heap.size w w' := by
  obtain ⟨a, c, rfl⟩ := h.shape
  have hm := h.len
  simp only [maxLen] at hm
  have HP := Lib.hid h
  clear h
  obtain ⟨q1, hq1⟩ : ∃ q, inB 1 12 (js.length : Int) = q := ⟨_, rfl⟩
  have HQ1 := Lib.hid hq1
  clear hq1
  go_enter Tryz.func51, Tryz.ntmps51
  cases q1
  · have HN := Lib.hid (show areJobsB js = false by unfold areJobsB; rw [HQ1.out]; rfl)
    go_wp2_with (first | (go_at_call 66; refine (size_any _ _ (by unfold maxLen; omega)).mono ?_; rintro e w' ⟨rfl, rfl⟩) | (go_at_call 115; refine (within_any _ _ _ _).mono ?_; rintro e w' ⟨rfl, rfl⟩; rw [HQ1.out]))
    go_ret
    exact ⟨by rw [HN.out]; rfl, Below.refl _ _⟩
  go_wp2_with (first | (go_at_call 66; refine (size_any _ _ (by unfold maxLen; omega)).mono ?_; rintro e w' ⟨rfl, rfl⟩) | (go_at_call 115; refine (within_any _ _ _ _).mono ?_; rintro e w' ⟨rfl, rfl⟩; rw [HQ1.out]))
  go_loopw [12] (fun i wr => ∃ k : Nat, i = .int .i64 k ∧ k ≤ js.length ∧ Hid (∀ j, j < k → jobB (js.getD j J0) = true) ∧ Hid (Below w.heap.size w wr)) (fun i _ => js.length - (intOf i).toNat)
  case atStart => exact ⟨0, rfl, Nat.zero_le _, fun j hj => by omega, Below.refl _ _⟩
  case round =>
    obtain ⟨k, rfl, hk, hall, HB⟩ := hrel
    by_cases hlt : k < js.length
    · obtain ⟨b, off, rfl, hb, x0, x1, x2, x3⟩ := (HP.out.up HB.out (Nat.le_refl _)).at hlt
      obtain ⟨x, hx⟩ : ∃ x, x = js.getD k J0 := ⟨_, rfl⟩
      rw [← hx] at x0 x1 x2 x3
      have HX := Lib.hid hx
      clear hx
      obtain ⟨t1, h1⟩ : ∃ t, inB 1 1000 x.long = t := ⟨_, rfl⟩
      obtain ⟨t2, h2⟩ : ∃ t, inB 0 100000 x.due = t := ⟨_, rfl⟩
      obtain ⟨t3, h3⟩ : ∃ t, inB 0 100000 x.ready = t := ⟨_, rfl⟩
      obtain ⟨t4, h4⟩ : ∃ t, inB 0 1000 x.weight = t := ⟨_, rfl⟩
      have HJ := Lib.hid (show jobB x = (t1 && (t2 && (t3 && t4))) by unfold jobB; rw [h1, h2, h3, h4])
      have T1 := Lib.hid h1
      have T2 := Lib.hid h2
      have T3 := Lib.hid h3
      have T4 := Lib.hid h4
      have hz := HB.out.size
      clear h1 h2 h3 h4
      have HNO := Lib.hid (show jobB x = false → areJobsB js = false from fun h => by unfold areJobsB; rw [allB_false hlt (by rw [← HX.out]; exact h), Bool.and_false])
      cases t1
      · have HN := Lib.hid (HNO.out (by rw [HJ.out]; simp))
        go_wp2_with (go_at_call 115; refine (within_any _ _ _ _).mono ?_; rintro e w' ⟨rfl, rfl⟩; first | rw [T1.out] | rw [T2.out] | rw [T3.out] | rw [T4.out])
        go_ret
        refine ⟨by rw [HN.out]; rfl, HB.out.trans (Below.mono ?_ hz)⟩
        (repeat' first | exact Below.refl _ _ | assumption | refine Below.alloc ?_ ?_ _ | refine Below.setCell ?_ ?_ _ | refine Below.drew ?_ | (simp; done) | (simp; omega))
      cases t2
      · have HN := Lib.hid (HNO.out (by rw [HJ.out]; simp))
        go_wp2_with (go_at_call 115; refine (within_any _ _ _ _).mono ?_; rintro e w' ⟨rfl, rfl⟩; first | rw [T1.out] | rw [T2.out] | rw [T3.out] | rw [T4.out])
        go_ret
        refine ⟨by rw [HN.out]; rfl, HB.out.trans (Below.mono ?_ hz)⟩
        (repeat' first | exact Below.refl _ _ | assumption | refine Below.alloc ?_ ?_ _ | refine Below.setCell ?_ ?_ _ | refine Below.drew ?_ | (simp; done) | (simp; omega))
      cases t3
      · have HN := Lib.hid (HNO.out (by rw [HJ.out]; simp))
        go_wp2_with (go_at_call 115; refine (within_any _ _ _ _).mono ?_; rintro e w' ⟨rfl, rfl⟩; first | rw [T1.out] | rw [T2.out] | rw [T3.out] | rw [T4.out])
        go_ret
        refine ⟨by rw [HN.out]; rfl, HB.out.trans (Below.mono ?_ hz)⟩
        (repeat' first | exact Below.refl _ _ | assumption | refine Below.alloc ?_ ?_ _ | refine Below.setCell ?_ ?_ _ | refine Below.drew ?_ | (simp; done) | (simp; omega))
      cases t4
      · have HN := Lib.hid (HNO.out (by rw [HJ.out]; simp))
        go_wp2_with (go_at_call 115; refine (within_any _ _ _ _).mono ?_; rintro e w' ⟨rfl, rfl⟩; first | rw [T1.out] | rw [T2.out] | rw [T3.out] | rw [T4.out])
        go_ret
        refine ⟨by rw [HN.out]; rfl, HB.out.trans (Below.mono ?_ hz)⟩
        (repeat' first | exact Below.refl _ _ | assumption | refine Below.alloc ?_ ?_ _ | refine Below.setCell ?_ ?_ _ | refine Below.drew ?_ | (simp; done) | (simp; omega))
      go_wp2_with (go_at_call 115; refine (within_any _ _ _ _).mono ?_; rintro e w' ⟨rfl, rfl⟩; first | rw [T1.out] | rw [T2.out] | rw [T3.out] | rw [T4.out])
      go_roundw
      case rel =>
        refine ⟨k + 1, by go_num, by omega, fun j hj => ?_, HB.out.trans (Below.mono ?_ hz)⟩
        · by_cases hjk : j < k
          · exact hall.out j hjk
          · obtain rfl : j = k := by omega
            rw [← HX.out, HJ.out]; rfl
        · (repeat' first | exact Below.refl _ _ | assumption | refine Below.alloc ?_ ?_ _ | refine Below.setCell ?_ ?_ _ | refine Below.drew ?_ | (simp; done) | (simp; omega))
      case measure => simp [intOf]; omega
    · obtain rfl : k = js.length := by omega
      have HN := Lib.hid (show areJobsB js = true by unfold areJobsB; rw [HQ1.out, allB_true hall.out]; rfl)
      go_wp2_with fail
      go_ret
      exact ⟨by rw [HN.out]; rfl, HB.out⟩
end Go.Proofs.YtgkbbpajkbkgnaaGreatDoor

namespace Go.Proofs.YtgkbbpajkbkgnaaGreatDoor
open Go.RowKit
def areSizesB (xs : List Int) : Bool := inB 1 16 xs.length && allIn 1 1000 xs
set_option maxHeartbeats 1000000 in
theorem AreSizes_any (v : Value) (xs : List Int) (w : World) (h : RdI w v xs) :
    Calls Tryz.prog 58 #[v] w fun e w' => e = .returned (.bool (areSizesB xs)) ∧ w = w' := by
  obtain ⟨q2, hq2⟩ : ∃ q, allIn 1 1000 xs = q := ⟨_, rfl⟩
  have HW := Lib.hid (allWithin_any v xs 1 1000 w h)
  rw [hq2] at HW
  obtain ⟨a, c, rfl⟩ := h.shape
  have hm := h.len
  simp only [maxLen] at hm
  clear h
  obtain ⟨q1, hq1⟩ : ∃ q, inB 1 16 (xs.length : Int) = q := ⟨_, rfl⟩
  have HQ1 := Lib.hid hq1
  have HQ2 := Lib.hid hq2
  clear hq1 hq2
  go_enter Tryz.func58, Tryz.ntmps58
  cases q1
  · have HN := Lib.hid (show areSizesB xs = false by unfold areSizesB; rw [HQ1.out]; rfl)
    go_wp2_with (first | (go_at_call 66; refine (size_any _ _ (by unfold maxLen; omega)).mono ?_; rintro e w' ⟨rfl, rfl⟩) | (go_at_call 115; refine (within_any _ _ _ _).mono ?_; rintro e w' ⟨rfl, rfl⟩; rw [HQ1.out]))
    go_ret
    exact ⟨by rw [HN.out]; rfl, rfl⟩
  · have HN := Lib.hid (show areSizesB xs = q2 by unfold areSizesB; rw [HQ1.out, HQ2.out]; rfl)
    go_wp2_with (first | (go_at_call 66; refine (size_any _ _ (by unfold maxLen; omega)).mono ?_; rintro e w' ⟨rfl, rfl⟩) | (go_at_call 115; refine (within_any _ _ _ _).mono ?_; rintro e w' ⟨rfl, rfl⟩; rw [HQ1.out]))
    refine HW.out.mono ?_
    rintro e w' ⟨rfl, rfl⟩
    go_wp2_with fail
    go_ret
    exact ⟨by rw [HN.out]; rfl, rfl⟩
end Go.Proofs.YtgkbbpajkbkgnaaGreatDoor

namespace Go.Proofs.YtgkbbpajkbkgnaaGreatDoor
open Go.RowKit
def citF (L : Nat) : Nat → Nat → Int
  | 0, _ => -1
  | f + 1, n => if ((L : Int) == (n : Int) * (n : Int)) = true then (n : Int) else citF L f (n + 1)
def citN (L : Nat) : Int := citF L 10 1
set_option maxHeartbeats 1000000 in
set_option maxRecDepth 4000 in
theorem cities_any (v : Value) (xs : List Int) (w : World) (h : RdI w v xs) :
    Calls Tryz.prog 60 #[v] w fun e w' => e = .returned (.int .i64 (citN xs.length)) ∧ w = w' := by
  obtain ⟨a, c, rfl⟩ := h.shape
  have hm := h.len
  simp only [maxLen] at hm
  clear h
  go_enter Tryz.func60, Tryz.ntmps60
  go_wp2_with fail
  go_loop [3] (fun i => ∃ k : Nat, i = .int .i64 ((k : Int) + 1) ∧ k ≤ 10 ∧ Hid (citN xs.length = citF xs.length (10 - k) (k + 1))) (fun i => 11 - (intOf i).toNat)
  case atStart => exact ⟨0, rfl, Nat.zero_le _, rfl⟩
  case round =>
    obtain ⟨k, rfl, hk, HC⟩ := hrel
    by_cases hlt : k < 10
    · have HS := Lib.hid (show citF xs.length (10 - k) (k + 1) = if ((xs.length : Int) == ((k : Int) + 1) * ((k : Int) + 1)) = true then ((k : Int) + 1) else citF xs.length (10 - (k + 1)) (k + 1 + 1) by
        rw [show 10 - k = (10 - (k + 1)) + 1 by omega]; simp [citF])
      have hkk : ((k : Int) + 1) * ((k : Int) + 1) ≤ 100 := by
        have h1 : (k : Int) + 1 ≤ 10 := by omega
        have h0 : (0 : Int) ≤ (k : Int) + 1 := by omega
        calc ((k : Int) + 1) * ((k : Int) + 1) ≤ 10 * 10 := Int.mul_le_mul h1 h1 h0 (by decide)
          _ = 100 := by decide
      have hk0 : (0 : Int) ≤ ((k : Int) + 1) * ((k : Int) + 1) := Int.mul_nonneg (by omega) (by omega)
      cases hq : ((xs.length : Int) == ((k : Int) + 1) * ((k : Int) + 1))
      · have HQ := Lib.hid hq
        go_wp2_with (go_at_call 66; refine (size_any _ _ (by unfold maxLen; omega)).mono ?_; rintro e w' ⟨rfl, rfl⟩)
        go_round
        case rel => exact ⟨k + 1, by go_num, by omega, by rw [HC.out, HS.out, HQ.out]; rfl⟩
        case measure => simp [intOf]; omega
      · have HQ := Lib.hid hq
        go_wp2_with (go_at_call 66; refine (size_any _ _ (by unfold maxLen; omega)).mono ?_; rintro e w' ⟨rfl, rfl⟩)
        go_ret
        exact ⟨by rw [HC.out, HS.out, HQ.out]; rfl, rfl⟩
    · obtain rfl : k = 10 := by omega
      go_wp2_with fail
      go_ret
      exact ⟨by rw [HC.out]; rfl, rfl⟩
end Go.Proofs.YtgkbbpajkbkgnaaGreatDoor

namespace Go.Proofs.YtgkbbpajkbkgnaaGreatDoor
open Go.RowKit
def symB (n : Nat) (xs : List Int) (i k : Nat) : Bool := (xs.getD (i * n + k) 0 == xs.getD (k * n + i) 0) && (!(i == k) || xs.getD (i * n + k) 0 == 0)
def areCitiesB (xs : List Int) : Bool := decide (0 ≤ citN xs.length) && (allIn 0 1000 xs && allB (citN xs.length).toNat (fun i => allB (i + 1) (fun k => symB (citN xs.length).toNat xs i k)))
theorem citF_spec (L : Nat) : ∀ f n, (citF L f n = -1 ∧ ∀ j, n ≤ j → j < n + f → j * j ≠ L) ∨ ∃ j : Nat, citF L f n = (j : Int) ∧ n ≤ j ∧ j < n + f ∧ j * j = L
  | 0, n => .inl ⟨rfl, fun j h1 h2 => by omega⟩
  | f + 1, n => by
    have ih := citF_spec L f (n + 1)
    unfold citF
    by_cases h : n * n = L
    · right
      refine ⟨n, ?_, by omega, by omega, h⟩
      rw [if_pos]
      simp only [beq_iff_eq]
      rw [← h]; push_cast; rfl
    · rw [if_neg (by simp only [beq_iff_eq]; intro e; apply h; have e2 : (L : Int) = ((n * n : Nat) : Int) := by rw [e]; push_cast; rfl
                     omega)]
      rcases ih with ⟨h1, h2⟩ | ⟨j, h1, h2, h3, h4⟩
      · left
        refine ⟨h1, fun j h3 h4 => ?_⟩
        by_cases e : j = n
        · subst e; exact h
        · exact h2 j (by omega) (by omega)
      · exact .inr ⟨j, h1, by omega, by omega, h4⟩
theorem citN_cases (L : Nat) : (citN L = -1 ∧ ∀ j, 1 ≤ j → j ≤ 10 → j * j ≠ L) ∨ ∃ j : Nat, citN L = (j : Int) ∧ 1 ≤ j ∧ j ≤ 10 ∧ j * j = L := by
  rcases citF_spec L 10 1 with ⟨h1, h2⟩ | ⟨j, h1, h2, h3, h4⟩
  · exact .inl ⟨h1, fun j a b => h2 j a (by omega)⟩
  · exact .inr ⟨j, h1, h2, by omega, h4⟩
theorem inAll {n : Nat} {xs : List Int} (hn : xs.length = n * n) : allIn 0 1000 xs = true ↔ ∀ i k, i < n → k < n → inB 0 1000 (xs.getD (i * n + k) 0) = true := by
  rw [allIn_iff]
  constructor
  · intro h i k hi hk
    refine h _ ?_
    rw [hn]
    have : (i + 1) * n ≤ n * n := Nat.mul_le_mul_right _ hi
    rw [Nat.add_mul] at this
    omega
  · intro h i hi
    have hn0 : 0 < n := by
      rcases Nat.eq_zero_or_pos n with e | e
      · subst e; omega
      · exact e
    have := h (i / n) (i % n) (by rw [Nat.div_lt_iff_lt_mul hn0]; omega) (Nat.mod_lt _ hn0)
    rwa [Nat.mul_comm, Nat.div_add_mod] at this
theorem areCities_not {xs : List Int} (h : ∀ j, 1 ≤ j → j ≤ 10 → j * j ≠ xs.length) : areCitiesB xs = false := by
  rcases citN_cases xs.length with ⟨h1, _⟩ | ⟨j, _, a, b, c⟩
  · unfold areCitiesB; rw [h1]; rfl
  · exact absurd c (h j a b)
end Go.Proofs.YtgkbbpajkbkgnaaGreatDoor

namespace Go.Proofs.YtgkbbpajkbkgnaaGreatDoor
open Go.RowKit
theorem ix_facts {L n i k : Nat} (hL : L = n * n) (hn : n ≤ 10) (hi : i < n) (hk : k < n) : (0 : Int) ≤ (i : Int) * n ∧ (i : Int) * n + k < (L : Int) ∧ (0 : Int) ≤ (i : Int) * n + k ∧ ((i : Int) * n + k).toNat = i * n + k ∧ IntKind.i64.wrap ((i : Int) * n) = (i : Int) * n ∧ IntKind.i64.wrap ((i : Int) * n + k) = (i : Int) * n + k ∧ i * n + k < L := by
  have h0 : ((i * n : Nat) : Int) = (i : Int) * n := by push_cast; rfl
  have h1 : (i + 1) * n ≤ n * n := Nat.mul_le_mul_right _ hi
  have h2 : n * n ≤ 10 * 10 := Nat.mul_le_mul hn hn
  rw [Nat.add_mul] at h1
  refine ⟨by omega, by omega, by omega, by omega, IntWalk.i64_in _ (by omega), IntWalk.i64_in _ (by omega), by omega⟩
set_option maxHeartbeats 4000000 in
set_option maxRecDepth 4000 in
theorem AreCities_any (v : Value) (xs : List Int) (w : World) (h : RdI w v xs) :
    Calls Tryz.prog 59 #[v] w fun e w' => e = .returned (.bool (areCitiesB xs)) ∧ Below w.heap.size w w' := by
  obtain ⟨q2, hq2⟩ : ∃ q, allIn 0 1000 xs = q := ⟨_, rfl⟩
  have HW := Lib.hid (allWithin_any v xs 0 1000 w h)
  have HCI := Lib.hid (cities_any v xs w h)
  rw [hq2] at HW
  have HP := Lib.hid h
  obtain ⟨a, c, rfl⟩ := h.shape
  have hm := h.len
  simp only [maxLen] at hm
  have HQ2 := Lib.hid hq2
  clear h hq2
  rcases citN_cases xs.length with ⟨hc1, hc2⟩ | ⟨n, hc1, h1, h10, hnn⟩
  · have HN := Lib.hid (areCities_not hc2)
    rw [hc1] at HCI
    clear hc1 hc2
    go_enter Tryz.func59, Tryz.ntmps59
    go_wp2_with fail
    refine HCI.out.mono ?_
    rintro e w' ⟨rfl, rfl⟩
    go_wp2_with fail
    go_ret
    exact ⟨by rw [HN.out]; rfl, Below.refl _ _⟩
  rw [hc1] at HCI
  have HAC := Lib.hid (show areCitiesB xs = (q2 && allB n (fun i => allB (i + 1) (fun k => symB n xs i k))) by unfold areCitiesB; rw [hc1, HQ2.out, Int.toNat_natCast]; simp)
  clear hc1
  have hn0 : decide ((n : Int) < 0) = false := by simp
  go_enter Tryz.func59, Tryz.ntmps59
  cases q2
  · have HN := Lib.hid (show areCitiesB xs = false by rw [HAC.out]; rfl)
    go_wp2_with fail
    refine HCI.out.mono ?_
    rintro e w' ⟨rfl, rfl⟩
    go_wp2_with fail
    refine HW.out.mono ?_
    rintro e w' ⟨rfl, rfl⟩
    go_wp2_with fail
    go_ret
    exact ⟨by rw [HN.out]; rfl, Below.refl _ _⟩
  go_wp2_with fail
  refine HCI.out.mono ?_
  rintro e w' ⟨rfl, rfl⟩
  go_wp2_with fail
  refine HW.out.mono ?_
  rintro e w' ⟨rfl, rfl⟩
  go_wp2_with fail
  have HNN := Lib.hid hnn
  clear hnn
  go_loopw [4] (fun i wr => ∃ k : Nat, i = .int .i64 k ∧ k ≤ n ∧ Hid (∀ j, j < k → allB (j + 1) (fun k => symB n xs j k) = true) ∧ Hid (Below w.heap.size w wr)) (fun i _ => n - (intOf i).toNat)
  case atStart => exact ⟨0, rfl, Nat.zero_le _, fun j hj => by omega, Below.refl _ _⟩
  case round =>
    obtain ⟨i, rfl, hi, hall, HB⟩ := hrel
    by_cases hin : i < n
    · have HNO := Lib.hid (show allB (i + 1) (fun k => symB n xs i k) = false → areCitiesB xs = false from fun h => by rw [HAC.out, allB_false hin h, Bool.and_false])
      obtain ⟨wo, rfl⟩ : ∃ wo, wo = wr := ⟨wr, rfl⟩
      go_wp2_with fail
      go_loopw [5] (fun k wr => ∃ j : Nat, k = .int .i64 j ∧ j ≤ i + 1 ∧ Hid (∀ m, m < j → symB n xs i m = true) ∧ Hid (Below w.heap.size w wr)) (fun k _ => i + 1 - (intOf k).toNat)
      case atStart => exact ⟨0, rfl, Nat.zero_le _, fun j hj => by omega, HB⟩
      case round =>
        obtain ⟨j, rfl, hj, hall2, HB2⟩ := hrel
        by_cases hjl : j < i + 1
        · obtain ⟨f1, f2, f3, f4, f5, f6, f7⟩ := ix_facts HNN.out.symm h10 hin (show j < n by omega)
          obtain ⟨g1, g2, g3, g4, g5, g6, g7⟩ := ix_facts HNN.out.symm h10 (show j < n by omega) hin
          obtain ⟨b, off, rfl, hb, hc⟩ := (HP.out.up HB2.out (Nat.le_refl _)).at f7
          obtain ⟨_, _, e, _, hc3⟩ := (HP.out.up HB2.out (Nat.le_refl _)).at g7
          simp only [Option.some.injEq, Addr.mk.injEq, and_true] at e
          obtain ⟨rfl, rfl⟩ := e
          have HS := Lib.hid (show symB n xs i j = ((xs.getD (i * n + j) 0 == xs.getD (j * n + i) 0) && (!(i == j) || xs.getD (i * n + j) 0 == 0)) from rfl)
          have hjle : decide ((j : Int) ≤ (i : Int)) = true := by simp; omega
          by_cases hij : i = j
          · subst hij
            obtain ⟨x, hx⟩ : ∃ x, x = xs.getD (i * n + i) 0 := ⟨_, rfl⟩
            rw [← hx] at hc hc3 HS
            clear hx
            have hne : (x != x) = false := by simp
            have hee : ((i : Int) == (i : Int)) = true := by simp
            by_cases hx0 : x = 0
            · have HOK := Lib.hid (show symB n xs i i = true by rw [HS.out, hx0]; simp)
              subst hx0
              go_wp2_with fail
              go_quiet (fail)
              go_wp2_with fail
              go_roundw
              case rel => exact ⟨i + 1, by go_num, by omega, fun m hm => by
                rcases Nat.lt_succ_iff_lt_or_eq.1 hm with h | rfl
                · exact hall2.out m h
                · exact HOK.out, below_drewN HB2.out _⟩
              case measure => simp [intOf]
            · have hx1 : (x != 0) = true := by simpa using hx0
              have HBAD := Lib.hid (HNO.out (allB_false hjl (by rw [HS.out]; simp [hx0])))
              clear hx0
              go_wp2_with fail
              go_quiet (fail)
              go_wp2_with fail
              go_ret
              exact ⟨by rw [HBAD.out]; rfl, below_drewN HB2.out _⟩
          · obtain ⟨x, hx⟩ : ∃ x, x = xs.getD (i * n + j) 0 := ⟨_, rfl⟩
            obtain ⟨y, hy⟩ : ∃ y, y = xs.getD (j * n + i) 0 := ⟨_, rfl⟩
            rw [← hx] at hc HS
            rw [← hy] at hc3 HS
            clear hx hy
            have hee : ((i : Int) == (j : Int)) = false := by simp; omega
            have hee' : (i == j) = false := by simp; omega
            by_cases hxy : x = y
            · have HOK := Lib.hid (show symB n xs i j = true by rw [HS.out, hxy, hee']; simp)
              subst hxy
              have hne : (x != x) = false := by simp
              go_wp2_with fail
              go_quiet (fail)
              go_wp2_with fail
              go_roundw
              case rel => exact ⟨j + 1, by go_num, by omega, fun m hm => by
                rcases Nat.lt_succ_iff_lt_or_eq.1 hm with h | rfl
                · exact hall2.out m h
                · exact HOK.out, below_drewN HB2.out _⟩
              case measure => simp [intOf]; omega
            · have hne : (x != y) = true := by simpa using hxy
              have HBAD := Lib.hid (HNO.out (allB_false hjl (by rw [HS.out]; simp [hxy])))
              clear hxy
              go_wp2_with fail
              go_quiet (fail)
              go_wp2_with fail
              go_ret
              exact ⟨by rw [HBAD.out]; rfl, below_drewN HB2.out _⟩
        · have hjle : decide ((j : Int) ≤ (i : Int)) = false := by simp; omega
          obtain rfl : j = i + 1 := by omega
          have HOK := Lib.hid (allB_true hall2.out)
          clear hall2
          go_wp2_with fail
          go_roundw
          case rel => exact ⟨i + 1, by go_num, by omega, fun m hm => by
            rcases Nat.lt_succ_iff_lt_or_eq.1 hm with h | rfl
            · exact hall.out m h
            · exact HOK.out, HB2⟩
          case measure => simp [intOf]; omega
    · obtain rfl : i = n := by omega
      have HN := Lib.hid (show areCitiesB xs = true by rw [HAC.out, allB_true hall.out]; rfl)
      go_wp2_with fail
      go_ret
      exact ⟨by rw [HN.out]; rfl, HB.out⟩
end Go.Proofs.YtgkbbpajkbkgnaaGreatDoor

namespace Go.Proofs.YtgkbbpajkbkgnaaGreatDoor
open Go.RowKit
theorem ord00 : FloatKind.f32.format.order 0 0 = some .eq := by decide +kernel
theorem IsFinite_any (x : Nat) (w : World) : Calls Tryz.prog 165 #[.float .f32 x] w fun e w' => e = .returned (.bool (fin32 x)) ∧ ∃ m, w' = w.drewN m := by
  by_cases h : fin32 x = true
  · have hs := fun (W : World) => run_sub_some (P := Tryz.prog) 100 x x 0 (sub_fin h) W
    have h0 := ord00
    rw [h]
    clear h
    go_enter Tryz.func165, Tryz.ntmps165
    go_wp2_with fail
    go_ret
    exact ⟨rfl, 0, rfl⟩
  · rw [Bool.not_eq_true] at h
    have hs := fun (W : World) => run_sub_none (P := Tryz.prog) 100 x x (sub_not h) W
    have h0 := fun (W : World) => (show FloatKind.f32.format.order (tape32 (.nanBits .f32 x x) W) 0 = none from order_nanL _ _ _ (tape32_nan x x W))
    rw [h]
    clear h
    go_enter Tryz.func165, Tryz.ntmps165
    go_wp2_with fail
    go_ret
    exact ⟨rfl, 1, rfl⟩
def allFin (xs : List Nat) : Bool := xs.all fin32
theorem allFin_yes {xs : List Nat} (h : ∀ i, i < xs.length → fin32 (xs.getD i 0) = true) : allFin xs = true := by
  unfold allFin; rw [List.all_eq_true]
  intro x hx
  obtain ⟨i, hi, rfl⟩ := List.getElem_of_mem hx
  have := h i hi
  simpa [hi] using this
theorem allFin_no {xs : List Nat} {i : Nat} (hi : i < xs.length) (h : fin32 (xs.getD i 0) = false) : allFin xs = false := by
  unfold allFin; rw [List.all_eq_false]
  refine ⟨xs[i], List.getElem_mem hi, ?_⟩
  have : xs.getD i 0 = xs[i] := by simp [hi]
  rw [this] at h
  simp [h]
theorem allFin_get {xs : List Nat} (h : allFin xs = true) {i : Nat} (hi : i < xs.length) : fin32 (xs.getD i 0) = true := by
  unfold allFin at h
  rw [List.all_eq_true] at h
  have : xs.getD i 0 = xs[i] := by simp [hi]
  rw [this]
  exact h _ (List.getElem_mem hi)
theorem drewN_then {w a b : World} (h1 : ∃ m, a = w.drewN m) (h2 : ∃ m, b = a.drewN m) : ∃ m, b = w.drewN m := by
  obtain ⟨m, rfl⟩ := h1
  obtain ⟨n, rfl⟩ := h2
  exact ⟨m + n, World.drewN_drewN _ _ _⟩
theorem rdF_drew {w a : World} {v : Value} {xs : List Nat} (h : RdF w v xs) (hd : ∃ m, a = w.drewN m) : RdF a v xs := by
  obtain ⟨m, rfl⟩ := hd
  exact h.drewN m
set_option maxHeartbeats 400000 in
theorem areFinite_any (v : Value) (xs : List Nat) (w : World) (h : RdF w v xs) :
    Calls Tryz.prog 116 #[v] w fun e w' => e = .returned (.bool (allFin xs)) ∧ ∃ m, w' = w.drewN m := by
  obtain ⟨a, c, rfl⟩ := h.shape
  have hl := h.len
  unfold maxLen at hl
  have HS := Lib.hid h
  clear h
  go_enter Tryz.func116, Tryz.ntmps116
  go_wp2_with fail
  go_loopw [7] (fun i wr => ∃ k : Nat, i = .int .i64 k ∧ k ≤ xs.length ∧ Hid (∀ j, j < k → fin32 (xs.getD j 0) = true) ∧ Hid (∃ m, wr = w.drewN m)) (fun i _ => xs.length - (intOf i).toNat)
  case atStart => exact ⟨0, rfl, Nat.zero_le _, fun j hj => by omega, 0, rfl⟩
  case round =>
    obtain ⟨k, rfl, hk, hall, hd⟩ := hrel
    by_cases hlt : k < xs.length
    · obtain ⟨b, off, rfl, _, hc⟩ := (rdF_drew HS.out hd.out).at hlt
      obtain ⟨x, hx⟩ : ∃ x, x = xs.getD k 0 := ⟨_, rfl⟩
      rw [← hx] at hc
      have HX := Lib.hid hx
      clear hx
      go_wp2_with fail
      refine (IsFinite_any x wr).mono ?_
      rintro e w1 ⟨rfl, hd1⟩
      have HD := Lib.hid (drewN_then hd.out hd1)
      clear hd1 hc
      by_cases hf : fin32 x = true
      · rw [hf]
        go_wp2_with fail
        go_roundw
        case rel => exact ⟨k + 1, by go_num, by omega, fun j hj => by
          rcases Nat.lt_succ_iff_lt_or_eq.1 hj with h | rfl
          · exact hall.out j h
          · rw [← HX.out]; exact hf, HD.out⟩
        case measure => simp [intOf]; omega
      · rw [Bool.not_eq_true] at hf
        rw [hf]
        have HF := Lib.hid (allFin_no hlt (by rw [← HX.out]; exact hf))
        go_wp2_with fail
        go_ret
        exact ⟨by rw [HF.out]; rfl, HD.out⟩
    · obtain rfl : k = xs.length := by omega
      go_wp2_with fail
      go_ret
      exact ⟨by rw [allFin_yes hall.out]; rfl, hd.out⟩
theorem areFinite_qs (v : Value) (xs : List Nat) (w : World) (n : Nat) (h : RdF w v xs) :
    Calls Tryz.prog 116 #[v] (w.drewN n) fun e w'' => e = .returned (.bool (allFin xs)) ∧ ∃ m, w'' = w.drewN m := by
  refine (areFinite_any v xs _ (h.drewN n)).mono ?_
  rintro e w' ⟨rfl, hd⟩
  exact ⟨rfl, drewN_then ⟨n, rfl⟩ hd⟩
def geq0 (x : Nat) : Bool := FloatKind.f32.format.order x 0 == some .gt || FloatKind.f32.format.order x 0 == some .eq
def least (x : Nat) : Bool := fin32 x && geq0 x
theorem lt_geq {x : Nat} (h : fin32 x = true) : (FloatKind.f32.format.order x 0 == some .lt) = !geq0 x := by
  unfold geq0
  have e : ∃ o, FloatKind.f32.format.order x 0 = some o := by
    unfold fin32 at h
    show ∃ o, Ieee.Format.order Ieee.single x 0 = some o
    unfold Ieee.Format.order
    have e0 : Ieee.single.read 0 = .number false 0 (-149) := by decide +kernel
    rw [e0]
    cases hr : Ieee.single.read x with
    | nan a b => rw [hr] at h; simp at h
    | infinity s => rw [hr] at h; simp at h
    | number s m e => exact ⟨_, rfl⟩
  obtain ⟨o, ho⟩ := e
  rw [ho]
  cases o <;> rfl
end Go.Proofs.YtgkbbpajkbkgnaaGreatDoor
