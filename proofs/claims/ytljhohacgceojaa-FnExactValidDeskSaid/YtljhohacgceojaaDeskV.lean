/-
  Valid desks: by the program and by the reference.
-/
import Derived.Test.YtljhohacgceojaaCountC
import Derived.Test.YtljhohacgceojaaValidR
namespace Go.Proofs.Ytljhohacgceojaa
open Go.RowKit

def waysB (xs : List Int) : Bool := areCitiesB xs && decide (citN xs.length ≤ 8)
noncomputable def validDk (d : DeskD) : Bool := validR d.rows && (areSizesB d.sizes && (areJobsB d.jobs && waysB d.ways))
theorem ways_count (xs : List Int) : waysB xs = (decide ((xs.length : Int) ≤ 64) && decide (0 < countC xs)) := by
  unfold waysB countC
  cases h : areCitiesB xs
  · simp
  · rcases citN_cases xs.length with ⟨h1, _⟩ | ⟨j, h1, a, b, c⟩
    · unfold areCitiesB at h; rw [h1] at h; simp at h
    · rw [h1, if_pos rfl, Bool.true_and, show decide ((0 : Int) < (j : Int)) = true by simp; omega, Bool.and_true, decide_eq_decide]
      constructor
      · intro h8
        have : j * j ≤ 8 * 8 := Nat.mul_le_mul (by omega) (by omega)
        omega
      · intro h64
        have : ¬ 9 ≤ j := fun h9 => by
          have : 9 * 9 ≤ j * j := Nat.mul_le_mul h9 h9
          omega
        omega

set_option maxHeartbeats 2000000 in
set_option maxRecDepth 4000 in
theorem implVD_any (v : Value) (d : DeskD) (w : World) (h : RdD w v d) :
    Calls Try.prog 43 #[v] w fun e w' => e = .returned (.bool (validDk d)) ∧ Below w.heap.size w w' := by
  obtain ⟨a1, c1, a2, c2, a3, c3, a4, c4, a5, c5, a6, c6, rfl⟩ := h.shape
  obtain ⟨p1, p2, p3, p4⟩ := h.parts
  obtain ⟨x1, x2, x3, x4⟩ := d
  simp only at p1 p2 p3 p4 ⊢
  have P1 := Lib.hid p1
  have P2 := Lib.hid p2
  have P3 := Lib.hid p3
  have P4 := Lib.hid p4
  clear h p1 p2 p3 p4
  obtain ⟨q1, h1⟩ : ∃ q, validR x1 = q := ⟨_, rfl⟩
  obtain ⟨q2, h2⟩ : ∃ q, areSizesB x2 = q := ⟨_, rfl⟩
  obtain ⟨q3, h3⟩ : ∃ q, areJobsB x3 = q := ⟨_, rfl⟩
  obtain ⟨q4, h4⟩ : ∃ q, areCitiesB x4 = q := ⟨_, rfl⟩
  have HV := Lib.hid (show validDk ⟨x1, x2, x3, x4⟩ = (q1 && (q2 && (q3 && (q4 && decide (citN x4.length ≤ 8))))) by unfold validDk waysB; rw [h1, h2, h3, h4])
  have H1 := Lib.hid h1
  have H2 := Lib.hid h2
  have H3 := Lib.hid h3
  have H4 := Lib.hid h4
  clear h1 h2 h3 h4
  go_enter Try.func43, Try.ntmps43
  go_wp2_with fail
  refine Calls.at fun W hW => ?_
  have HB := Lib.hid (show Below w.heap.size w W by subst hW; (repeat' first | exact Below.refl _ _ | assumption | refine Below.alloc ?_ ?_ _ | refine Below.setCell ?_ ?_ _ | refine Below.drew ?_ | (simp; done) | (simp; omega)))
  have HK := Lib.hid (show Blk W w.heap.size 69 #[.int .i64 x1.vars, .slice a1 x1.nums.length c1, .slice a2 x1.bnds.length c2, .slice a3 x1.gains.length c3, .slice a4 x2.length c4, .slice a5 x3.length c5, .slice a6 x4.length c6] by subst hW; exact Blk.new _ _ _)
  clear hW
  refine (ValidRows_any _ x1 W (P1.out.up HB.out (Nat.le_refl _))).mono ?_
  rintro e w1 ⟨rfl, hb⟩
  rw [H1.out]
  have HB1 := Lib.hid (HB.out.trans (hb.mono HB.out.size))
  have HK1 := Lib.hid (HK.out.below hb HK.out.lt)
  clear hb
  cases q1
  · go_wp2_with fail
    go_ret
    exact ⟨by rw [HV.out]; rfl, HB1.out⟩
  have d4 : w1.cell? ⟨w.heap.size, 4, none⟩ = some (.slice a4 x2.length c4) := HK1.out.cell 4 rfl
  have d5 : w1.cell? ⟨w.heap.size, 5, none⟩ = some (.slice a5 x3.length c5) := HK1.out.cell 5 rfl
  go_wp2_with fail
  refine (AreSizes_any _ x2 w1 (P2.out.up HB1.out (Nat.le_refl _))).mono ?_
  rintro e w1' ⟨rfl, rfl⟩
  rw [H2.out]
  cases q2
  · go_wp2_with fail
    go_ret
    exact ⟨by rw [HV.out]; rfl, HB1.out⟩
  go_wp2_with fail
  refine (AreJobs_any _ x3 w1 (P3.out.up HB1.out (Nat.le_refl _))).mono ?_
  rintro e w2 ⟨rfl, hb⟩
  rw [H3.out]
  have HB2 := Lib.hid (HB1.out.trans (hb.mono HB1.out.size))
  have HK2 := Lib.hid (HK1.out.below hb HK1.out.lt)
  clear hb d4 d5
  cases q3
  · go_wp2_with fail
    go_ret
    exact ⟨by rw [HV.out]; rfl, HB2.out⟩
  have d6 : w2.cell? ⟨w.heap.size, 6, none⟩ = some (.slice a6 x4.length c6) := HK2.out.cell 6 rfl
  go_wp2_with fail
  refine (AreCities_any _ x4 w2 (P4.out.up HB2.out (Nat.le_refl _))).mono ?_
  rintro e w3 ⟨rfl, hb⟩
  rw [H4.out]
  have HB3 := Lib.hid (HB2.out.trans (hb.mono HB2.out.size))
  have HK3 := Lib.hid (HK2.out.below hb HK2.out.lt)
  clear hb d6
  cases q4
  · go_wp2_with fail
    go_ret
    exact ⟨by rw [HV.out]; rfl, HB3.out⟩
  have d6 : w3.cell? ⟨w.heap.size, 6, none⟩ = some (.slice a6 x4.length c6) := HK3.out.cell 6 rfl
  go_wp2_with fail
  refine (cities_any _ x4 w3 (P4.out.up HB3.out (Nat.le_refl _))).mono ?_
  rintro e w3' ⟨rfl, rfl⟩
  go_wp2_with fail
  go_ret
  exact ⟨by rw [HV.out]; rfl, HB3.out⟩

set_option maxHeartbeats 1000000 in
theorem l08Ways_any (v : Value) (xs : List Int) (w : World) (h : RdI w v xs) :
    Calls Try.prog 124 #[v] w fun e w' => e = .returned (.bool (waysB xs)) ∧ Below w.heap.size w w' := by
  have HC := Lib.hid (l04Count_any v xs w h)
  obtain ⟨a, c, rfl⟩ := h.shape
  have HW := Lib.hid (ways_count xs)
  clear h
  go_enter Try.func124, Try.ntmps124
  by_cases h64 : (xs.length : Int) ≤ 64
  · have HN := Lib.hid (show waysB xs = decide (0 < countC xs) by rw [HW.out, decide_eq_true h64, Bool.true_and])
    go_wp2_with fail
    refine HC.out.mono ?_
    rintro e w1 ⟨rfl, hb⟩
    go_wp2_with fail
    go_ret
    exact ⟨by rw [HN.out]; rfl, hb⟩
  · have HN := Lib.hid (show waysB xs = false by rw [HW.out, decide_eq_false h64, Bool.false_and])
    go_wp2_with fail
    go_ret
    exact ⟨by rw [HN.out]; rfl, Below.refl _ _⟩

set_option maxHeartbeats 2000000 in
set_option maxRecDepth 4000 in
theorem l08Is_any (bb : Nat) (v : Value) (d : DeskD) (w : World) (cs : Array Value) (hv : v = .agg cs) (hk : Cels w bb cs) (h : RdD w v d) :
    Calls Try.prog 88 #[.pointer (some ⟨bb, 0, none⟩)] w fun e w' => e = .returned (.bool (validDk d)) ∧ Below w.heap.size w w' := by
  subst hv
  obtain ⟨a1, c1, a2, c2, a3, c3, a4, c4, a5, c5, a6, c6, e⟩ := h.shape
  simp only [Value.agg.injEq] at e
  subst e
  obtain ⟨p1, p2, p3, p4⟩ := h.parts
  obtain ⟨x1, x2, x3, x4⟩ := d
  simp only at p1 p2 p3 p4 hk ⊢
  have P1 := Lib.hid p1
  have P2 := Lib.hid p2
  have P3 := Lib.hid p3
  have P4 := Lib.hid p4
  have HR := Lib.hid (l02Is_cels bb _ _ _ _ x1 w (fun j u hj => by
    match j, hj with
    | 0, hj => exact hk 0 u hj
    | 1, hj => exact hk 1 u hj
    | 2, hj => exact hk 2 u hj
    | 3, hj => exact hk 3 u hj
    | j + 4, hj => simp at hj) p1)
  have d4 : w.cell? ⟨bb, 4, none⟩ = some (.slice a4 x2.length c4) := hk.cell 4 rfl
  have d5 : w.cell? ⟨bb, 5, none⟩ = some (.slice a5 x3.length c5) := hk.cell 5 rfl
  have d6 : w.cell? ⟨bb, 6, none⟩ = some (.slice a6 x4.length c6) := hk.cell 6 rfl
  clear h p1 p2 p3 p4 hk
  obtain ⟨q1, h1⟩ : ∃ q, validR x1 = q := ⟨_, rfl⟩
  obtain ⟨q2, h2⟩ : ∃ q, areSizesB x2 = q := ⟨_, rfl⟩
  obtain ⟨q3, h3⟩ : ∃ q, areJobsB x3 = q := ⟨_, rfl⟩
  have HV := Lib.hid (show validDk ⟨x1, x2, x3, x4⟩ = (q1 && (q2 && (q3 && waysB x4))) by unfold validDk; rw [h1, h2, h3])
  rw [h1] at HR
  have H2 := Lib.hid h2
  have H3 := Lib.hid h3
  clear h1 h2 h3
  go_enter Try.func88, Try.ntmps88
  go_wp2_with fail
  refine HR.out.mono ?_
  rintro e w1 ⟨rfl, n, rfl⟩
  replace d4 : (w.drewN n).cell? ⟨bb, 4, none⟩ = some (.slice a4 x2.length c4) := d4
  replace d5 : (w.drewN n).cell? ⟨bb, 5, none⟩ = some (.slice a5 x3.length c5) := d5
  replace d6 : (w.drewN n).cell? ⟨bb, 6, none⟩ = some (.slice a6 x4.length c6) := d6
  have HB := Lib.hid (below_drewN (Below.refl w.heap.size w) n)
  obtain ⟨W, hW⟩ : ∃ W, W = w.drewN n := ⟨_, rfl⟩
  rw [← hW] at d4 d5 d6 HB ⊢
  clear hW
  cases q1
  · go_wp2_with fail
    go_ret
    exact ⟨by rw [HV.out]; rfl, HB.out⟩
  go_wp2_with fail
  refine (l04Sizes_any _ x2 W (P2.out.up HB.out (Nat.le_refl _))).mono ?_
  rintro e w1' ⟨rfl, rfl⟩
  rw [H2.out]
  cases q2
  · go_wp2_with fail
    go_ret
    exact ⟨by rw [HV.out]; rfl, HB.out⟩
  go_wp2_with fail
  refine (l06Are_any _ x3 W (P3.out.up HB.out (Nat.le_refl _))).mono ?_
  rintro e w2 ⟨rfl, rfl⟩
  rw [H3.out]
  cases q3
  · go_wp2_with fail
    go_ret
    exact ⟨by rw [HV.out]; rfl, HB.out⟩
  go_wp2_with fail
  refine (l08Ways_any _ x4 W (P4.out.up HB.out (Nat.le_refl _))).mono ?_
  rintro e w3 ⟨rfl, hb⟩
  go_wp2_with fail
  go_ret
  exact ⟨by rw [HV.out]; rfl, HB.out.trans (hb.mono HB.out.size)⟩

set_option maxHeartbeats 1000000 in
theorem specVD_any (v : Value) (d : DeskD) (w : World) (h : RdD w v d) :
    Calls Try.prog 42 #[v] w fun e w' => e = .returned (.bool (validDk d)) ∧ Below w.heap.size w w' := by
  obtain ⟨a1, c1, a2, c2, a3, c3, a4, c4, a5, c5, a6, c6, rfl⟩ := h.shape
  have HP := Lib.hid h
  clear h
  go_enter Try.func42, Try.ntmps42
  go_wp2_with fail
  refine Calls.at fun W hW => ?_
  have HB := Lib.hid (show Below w.heap.size w W by subst hW; (repeat' first | exact Below.refl _ _ | assumption | refine Below.alloc ?_ ?_ _ | refine Below.setCell ?_ ?_ _ | refine Below.drew ?_ | (simp; done) | (simp; omega)))
  have HK := Lib.hid (show Blk W w.heap.size 69 #[.int .i64 d.rows.vars, .slice a1 d.rows.nums.length c1, .slice a2 d.rows.bnds.length c2, .slice a3 d.rows.gains.length c3, .slice a4 d.sizes.length c4, .slice a5 d.jobs.length c5, .slice a6 d.ways.length c6] by subst hW; exact Blk.new _ _ _)
  clear hW
  refine (l08Is_any _ _ d W _ rfl HK.out.cels (HP.out.up HB.out (Nat.le_refl _))).mono ?_
  rintro e w1 ⟨rfl, hb⟩
  go_wp2_with fail
  go_ret
  exact ⟨rfl, HB.out.trans (hb.mono HB.out.size)⟩

end Go.Proofs.Ytljhohacgceojaa
