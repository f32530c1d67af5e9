/-
  FnExactReadJobs: texts joined: ValidR, ValidRS.
-/
import Derived.Test.YtggpbekclegfoaaDoorMEReadJobsAF
import Derived.Test.YtggpbekclegfoaaDoorMEReadJobsAG
namespace Go.Proofs.YtggpbekclegfoaaDoor
open Go.RowKit

structure ValR (r : RowsD) : Prop where
  v1 : 1 ≤ r.vars
  v8 : r.vars ≤ 8
  b1 : 1 ≤ r.bnds.length
  b8 : r.bnds.length ≤ 8
  gl : (r.gains.length : Int) = r.vars
  nl : (r.nums.length : Int) = r.vars * r.bnds.length
  fn : allFin r.nums = true
  fg : allFin r.gains = true
  lb : ∀ i, i < r.bnds.length → least (r.bnds.getD i 0) = true
open Classical in
noncomputable def validR (r : RowsD) : Bool := decide (ValR r)
theorem validR_true {r : RowsD} (h : ValR r) : validR r = true := by simp [validR, h]
theorem validR_false {r : RowsD} (h : ¬ ValR r) : validR r = false := by simp [validR, h]
theorem validR_iff {r : RowsD} : validR r = true ↔ ValR r := by simp [validR]
theorem least_fin {x : Nat} (h : least x = true) : fin32 x = true := by
  unfold least at h; simp only [Bool.and_eq_true] at h; exact h.1

theorem lt_of_least {x : Nat} (h : least x = true) : (FloatKind.f32.format.order x 0 == some .lt) = false := by
  rw [lt_geq (least_fin h)]
  unfold least at h; simp only [Bool.and_eq_true] at h
  simp [h.2]
theorem least_of {x : Nat} (hf : fin32 x = true) (h : (FloatKind.f32.format.order x 0 == some .lt) = false) : least x = true := by
  rw [lt_geq hf] at h
  unfold least
  simp at h
  simp [hf, h]
theorem mulR {n0 : Int} {k : Nat} (h1 : 1 ≤ n0) (h8 : n0 ≤ 8) (hk : k ≤ 8) : 0 ≤ n0 * (k : Int) ∧ n0 * (k : Int) ≤ 64 := by
  constructor
  · exact Int.mul_nonneg (by omega) (by omega)
  · have : n0 * (k : Int) ≤ 8 * 8 := Int.mul_le_mul h8 (by omega) (by omega) (by decide)
    omega

set_option maxHeartbeats 4000000 in
set_option maxRecDepth 4000 in
theorem VR_hA (n0 : Int) (x1 x2 x3 : List Nat) (a1 a2 a3 : Option Addr) (c1 c2 c3 : Nat) (w : World) (P1 : Hid (RdF w (.slice a1 x1.length c1) x1)) (P2 : Hid (RdF w (.slice a2 x2.length c2) x2)) (P3 : Hid (RdF w (.slice a3 x3.length c3) x3)) (l1 : x1.length ≤ 9223372036854775807) (l2 : x2.length ≤ 9223372036854775807) (l3 : x3.length ≤ 9223372036854775807)
    (hA : ¬ (1 ≤ n0 ∧ n0 ≤ 8)) :
    Calls Tryd.prog 35 #[.agg #[.int .i64 n0, .slice a1 x1.length c1, .slice a2 x2.length c2, .slice a3 x3.length c3]] w fun e w' => e = .returned (.bool (validR ⟨n0, x1, x2, x3⟩)) ∧ Below w.heap.size w w' := by
    have hin := inB_false (lo := 1) (hi := 8) (n := n0) hA
    have HNO := Lib.hid (validR_false (r := ⟨n0, x1, x2, x3⟩) (fun h => hA ⟨h.v1, h.v8⟩))
    clear hA
    go_enter Tryd.func35, Tryd.ntmps35
    go_wp2_with fail
    refine wp_at fun W hW => ?_
    have HB := Lib.hid (show Below w.heap.size w W by subst hW; (repeat' first | exact Below.refl _ _ | assumption | refine Below.alloc ?_ ?_ _ | refine Below.setCell ?_ ?_ _ | refine Below.drew ?_ | (simp; done) | (simp; omega)))
    have HK := Lib.hid (show Blk W w.heap.size 35 #[.int .i64 n0, .slice a1 x1.length c1, .slice a2 x2.length c2, .slice a3 x3.length c3] by subst hW; exact Blk.new _ _ _)
    clear hW
    have d0 : W.cell? ⟨w.heap.size, 0, none⟩ = some (.int .i64 n0) := HK.out.cell 0 rfl
    have d1 : W.cell? ⟨w.heap.size, 1, none⟩ = some (.slice a1 x1.length c1) := HK.out.cell 1 rfl
    have d2 : W.cell? ⟨w.heap.size, 2, none⟩ = some (.slice a2 x2.length c2) := HK.out.cell 2 rfl
    have d3 : W.cell? ⟨w.heap.size, 3, none⟩ = some (.slice a3 x3.length c3) := HK.out.cell 3 rfl
    go_quiet (first
      | (go_at_call 52; exact quiet_same (size_any _ _ (by unfold maxLen; omega)))
      | (go_at_call 51; exact quiet_same (within_any _ _ _ _)))
    go_wp2_with fail
    go_ret
    exact ⟨by rw [HNO.out]; rfl, below_drewN HB.out _⟩

set_option maxHeartbeats 4000000 in
set_option maxRecDepth 4000 in
theorem VR_hB (n0 : Int) (x1 x2 x3 : List Nat) (a1 a2 a3 : Option Addr) (c1 c2 c3 : Nat) (w : World) (P1 : Hid (RdF w (.slice a1 x1.length c1) x1)) (P2 : Hid (RdF w (.slice a2 x2.length c2) x2)) (P3 : Hid (RdF w (.slice a3 x3.length c3) x3)) (l1 : x1.length ≤ 9223372036854775807) (l2 : x2.length ≤ 9223372036854775807) (l3 : x3.length ≤ 9223372036854775807)
    (hA : 1 ≤ n0 ∧ n0 ≤ 8) (hB : ¬ (1 ≤ x2.length ∧ x2.length ≤ 8)) :
    Calls Tryd.prog 35 #[.agg #[.int .i64 n0, .slice a1 x1.length c1, .slice a2 x2.length c2, .slice a3 x3.length c3]] w fun e w' => e = .returned (.bool (validR ⟨n0, x1, x2, x3⟩)) ∧ Below w.heap.size w w' := by
    have hin := inB_true (lo := 1) (hi := 8) (n := n0) hA
    have hin2 := inB_false (lo := 1) (hi := 8) (n := (x2.length : Int)) (by omega)
    have HNO := Lib.hid (validR_false (r := ⟨n0, x1, x2, x3⟩) (fun h => hB ⟨h.b1, h.b8⟩))
    clear hA hB
    go_enter Tryd.func35, Tryd.ntmps35
    go_wp2_with fail
    refine wp_at fun W hW => ?_
    have HB := Lib.hid (show Below w.heap.size w W by subst hW; (repeat' first | exact Below.refl _ _ | assumption | refine Below.alloc ?_ ?_ _ | refine Below.setCell ?_ ?_ _ | refine Below.drew ?_ | (simp; done) | (simp; omega)))
    have HK := Lib.hid (show Blk W w.heap.size 35 #[.int .i64 n0, .slice a1 x1.length c1, .slice a2 x2.length c2, .slice a3 x3.length c3] by subst hW; exact Blk.new _ _ _)
    clear hW
    have d0 : W.cell? ⟨w.heap.size, 0, none⟩ = some (.int .i64 n0) := HK.out.cell 0 rfl
    have d1 : W.cell? ⟨w.heap.size, 1, none⟩ = some (.slice a1 x1.length c1) := HK.out.cell 1 rfl
    have d2 : W.cell? ⟨w.heap.size, 2, none⟩ = some (.slice a2 x2.length c2) := HK.out.cell 2 rfl
    have d3 : W.cell? ⟨w.heap.size, 3, none⟩ = some (.slice a3 x3.length c3) := HK.out.cell 3 rfl
    go_quiet (first
      | (go_at_call 52; exact quiet_same (size_any _ _ (by unfold maxLen; omega)))
      | (go_at_call 51; exact quiet_same (within_any _ _ _ _)))
    go_wp2_with fail
    go_ret
    exact ⟨by rw [HNO.out]; rfl, below_drewN HB.out _⟩

set_option maxHeartbeats 4000000 in
set_option maxRecDepth 4000 in
theorem VR_hC (n0 : Int) (x1 x2 x3 : List Nat) (a1 a2 a3 : Option Addr) (c1 c2 c3 : Nat) (w : World) (P1 : Hid (RdF w (.slice a1 x1.length c1) x1)) (P2 : Hid (RdF w (.slice a2 x2.length c2) x2)) (P3 : Hid (RdF w (.slice a3 x3.length c3) x3)) (l1 : x1.length ≤ 9223372036854775807) (l2 : x2.length ≤ 9223372036854775807) (l3 : x3.length ≤ 9223372036854775807)
    (hA : 1 ≤ n0 ∧ n0 ≤ 8) (hB : 1 ≤ x2.length ∧ x2.length ≤ 8) (hC : ¬ ((x3.length : Int) = n0)) :
    Calls Tryd.prog 35 #[.agg #[.int .i64 n0, .slice a1 x1.length c1, .slice a2 x2.length c2, .slice a3 x3.length c3]] w fun e w' => e = .returned (.bool (validR ⟨n0, x1, x2, x3⟩)) ∧ Below w.heap.size w w' := by
    have hin := inB_true (lo := 1) (hi := 8) (n := n0) hA
    have hin2 := inB_true (lo := 1) (hi := 8) (n := (x2.length : Int)) (by omega)
    have hcb : ((x3.length : Int) != n0) = true := by simp [hC]
    have HNO := Lib.hid (validR_false (r := ⟨n0, x1, x2, x3⟩) (fun h => hC h.gl))
    clear hA hC
    go_enter Tryd.func35, Tryd.ntmps35
    go_wp2_with fail
    refine wp_at fun W hW => ?_
    have HB := Lib.hid (show Below w.heap.size w W by subst hW; (repeat' first | exact Below.refl _ _ | assumption | refine Below.alloc ?_ ?_ _ | refine Below.setCell ?_ ?_ _ | refine Below.drew ?_ | (simp; done) | (simp; omega)))
    have HK := Lib.hid (show Blk W w.heap.size 35 #[.int .i64 n0, .slice a1 x1.length c1, .slice a2 x2.length c2, .slice a3 x3.length c3] by subst hW; exact Blk.new _ _ _)
    clear hW
    have d0 : W.cell? ⟨w.heap.size, 0, none⟩ = some (.int .i64 n0) := HK.out.cell 0 rfl
    have d1 : W.cell? ⟨w.heap.size, 1, none⟩ = some (.slice a1 x1.length c1) := HK.out.cell 1 rfl
    have d2 : W.cell? ⟨w.heap.size, 2, none⟩ = some (.slice a2 x2.length c2) := HK.out.cell 2 rfl
    have d3 : W.cell? ⟨w.heap.size, 3, none⟩ = some (.slice a3 x3.length c3) := HK.out.cell 3 rfl
    go_quiet (first
      | (go_at_call 52; exact quiet_same (size_any _ _ (by unfold maxLen; omega)))
      | (go_at_call 51; exact quiet_same (within_any _ _ _ _)))
    go_wp2_with fail
    go_ret
    exact ⟨by rw [HNO.out]; rfl, below_drewN HB.out _⟩

set_option maxHeartbeats 4000000 in
set_option maxRecDepth 4000 in
theorem VR_hD (n0 : Int) (x1 x2 x3 : List Nat) (a1 a2 a3 : Option Addr) (c1 c2 c3 : Nat) (w : World) (P1 : Hid (RdF w (.slice a1 x1.length c1) x1)) (P2 : Hid (RdF w (.slice a2 x2.length c2) x2)) (P3 : Hid (RdF w (.slice a3 x3.length c3) x3)) (l1 : x1.length ≤ 9223372036854775807) (l2 : x2.length ≤ 9223372036854775807) (l3 : x3.length ≤ 9223372036854775807)
    (hA : 1 ≤ n0 ∧ n0 ≤ 8) (hB : 1 ≤ x2.length ∧ x2.length ≤ 8) (hC : (x3.length : Int) = n0) (hD : ¬ ((x1.length : Int) = n0 * x2.length)) :
    Calls Tryd.prog 35 #[.agg #[.int .i64 n0, .slice a1 x1.length c1, .slice a2 x2.length c2, .slice a3 x3.length c3]] w fun e w' => e = .returned (.bool (validR ⟨n0, x1, x2, x3⟩)) ∧ Below w.heap.size w w' := by
    have hin := inB_true (lo := 1) (hi := 8) (n := n0) hA
    have hin2 := inB_true (lo := 1) (hi := 8) (n := (x2.length : Int)) (by omega)
    have hcb : ((x3.length : Int) != n0) = false := by simp [hC]
    obtain ⟨M, hM⟩ : ∃ M : Int, M = n0 * x2.length := ⟨_, rfl⟩
    have hM0 : 0 ≤ M ∧ M ≤ 64 := by have := mulR hA.1 hA.2 hB.2; omega
    have hmul : IntKind.i64.wrap (n0 * (x2.length : Int)) = M := by rw [IntWalk.i64_in _ (by omega), hM]
    have hdb : ((x1.length : Int) != M) = true := by rw [hM]; simp [hD]
    have HM := Lib.hid hM
    clear hM
    have HNO := Lib.hid (validR_false (r := ⟨n0, x1, x2, x3⟩) (fun h => hD h.nl))
    clear hA hC hD
    go_enter Tryd.func35, Tryd.ntmps35
    go_wp2_with fail
    refine wp_at fun W hW => ?_
    have HB := Lib.hid (show Below w.heap.size w W by subst hW; (repeat' first | exact Below.refl _ _ | assumption | refine Below.alloc ?_ ?_ _ | refine Below.setCell ?_ ?_ _ | refine Below.drew ?_ | (simp; done) | (simp; omega)))
    have HK := Lib.hid (show Blk W w.heap.size 35 #[.int .i64 n0, .slice a1 x1.length c1, .slice a2 x2.length c2, .slice a3 x3.length c3] by subst hW; exact Blk.new _ _ _)
    clear hW
    have d0 : W.cell? ⟨w.heap.size, 0, none⟩ = some (.int .i64 n0) := HK.out.cell 0 rfl
    have d1 : W.cell? ⟨w.heap.size, 1, none⟩ = some (.slice a1 x1.length c1) := HK.out.cell 1 rfl
    have d2 : W.cell? ⟨w.heap.size, 2, none⟩ = some (.slice a2 x2.length c2) := HK.out.cell 2 rfl
    have d3 : W.cell? ⟨w.heap.size, 3, none⟩ = some (.slice a3 x3.length c3) := HK.out.cell 3 rfl
    go_quiet (first
      | (go_at_call 52; exact quiet_same (size_any _ _ (by unfold maxLen; omega)))
      | (go_at_call 51; exact quiet_same (within_any _ _ _ _)))
    go_wp2_with fail
    go_ret
    exact ⟨by rw [HNO.out]; rfl, below_drewN HB.out _⟩

set_option maxHeartbeats 4000000 in
set_option maxRecDepth 4000 in
theorem VR_yes (n0 : Int) (x1 x2 x3 : List Nat) (a1 a2 a3 : Option Addr) (c1 c2 c3 : Nat) (w : World) (P1 : Hid (RdF w (.slice a1 x1.length c1) x1)) (P2 : Hid (RdF w (.slice a2 x2.length c2) x2)) (P3 : Hid (RdF w (.slice a3 x3.length c3) x3)) (l1 : x1.length ≤ 9223372036854775807) (l2 : x2.length ≤ 9223372036854775807) (l3 : x3.length ≤ 9223372036854775807)
    (hA : 1 ≤ n0 ∧ n0 ≤ 8) (hB : 1 ≤ x2.length ∧ x2.length ≤ 8) (hC : (x3.length : Int) = n0) (hD : (x1.length : Int) = n0 * x2.length)  :
    Calls Tryd.prog 35 #[.agg #[.int .i64 n0, .slice a1 x1.length c1, .slice a2 x2.length c2, .slice a3 x3.length c3]] w fun e w' => e = .returned (.bool (validR ⟨n0, x1, x2, x3⟩)) ∧ Below w.heap.size w w' := by
  have hin := inB_true (lo := 1) (hi := 8) (n := n0) hA
  have hin2 := inB_true (lo := 1) (hi := 8) (n := (x2.length : Int)) (by omega)
  have hcb : ((x3.length : Int) != n0) = false := by simp [hC]
  obtain ⟨M, hM⟩ : ∃ M : Int, M = n0 * x2.length := ⟨_, rfl⟩
  have hM0 : 0 ≤ M ∧ M ≤ 64 := by have := mulR hA.1 hA.2 hB.2; omega
  have hmul : IntKind.i64.wrap (n0 * (x2.length : Int)) = M := by rw [IntWalk.i64_in _ (by omega), hM]
  have hdb : ((x1.length : Int) != M) = false := by rw [hM]; simp [hD]
  have HM := Lib.hid hM
  clear hM
  have HC := Lib.hid hC
  have HD := Lib.hid hD
  have HA := Lib.hid hA
  have HBB := Lib.hid hB
  clear hA hC hD
  go_enter Tryd.func35, Tryd.ntmps35
  go_wp2_with fail
  refine wp_at fun W hW => ?_
  have HB := Lib.hid (show Below w.heap.size w W by subst hW; (repeat' first | exact Below.refl _ _ | assumption | refine Below.alloc ?_ ?_ _ | refine Below.setCell ?_ ?_ _ | refine Below.drew ?_ | (simp; done) | (simp; omega)))
  have HK := Lib.hid (show Blk W w.heap.size 35 #[.int .i64 n0, .slice a1 x1.length c1, .slice a2 x2.length c2, .slice a3 x3.length c3] by subst hW; exact Blk.new _ _ _)
  clear hW
  have d0 : W.cell? ⟨w.heap.size, 0, none⟩ = some (.int .i64 n0) := HK.out.cell 0 rfl
  have d1 : W.cell? ⟨w.heap.size, 1, none⟩ = some (.slice a1 x1.length c1) := HK.out.cell 1 rfl
  have d2 : W.cell? ⟨w.heap.size, 2, none⟩ = some (.slice a2 x2.length c2) := HK.out.cell 2 rfl
  have d3 : W.cell? ⟨w.heap.size, 3, none⟩ = some (.slice a3 x3.length c3) := HK.out.cell 3 rfl
  go_quiet (first
    | (go_at_call 52; exact quiet_same (size_any _ _ (by unfold maxLen; omega)))
    | (go_at_call 51; exact quiet_same (within_any _ _ _ _)))
  obtain ⟨W2, hW2⟩ : ∃ W2, W2 = W.drewN nq := ⟨_, rfl⟩
  rw [← hW2]
  have HB2 := Lib.hid (show Below w.heap.size w W2 by subst hW2; exact below_drewN HB.out _)
  have HK2 := Lib.hid (show Blk W2 w.heap.size 35 #[.int .i64 n0, .slice a1 x1.length c1, .slice a2 x2.length c2, .slice a3 x3.length c3] by subst hW2; exact HK.out)
  clear hW2 d0 d1 d2 d3
  have d2 : W2.cell? ⟨w.heap.size, 2, none⟩ = some (.slice a2 x2.length c2) := HK2.out.cell 2 rfl
  go_wp2_with fail
  go_loopw [43] (fun i wr => ∃ k : Nat, i = .int .i64 k ∧ k ≤ x2.length ∧ Hid (∀ j, j < k → (FloatKind.f32.format.order (x2.getD j 0) 0 == some .lt) = false) ∧ wr = W2) (fun i _ => x2.length - (intOf i).toNat)
  case atStart => exact ⟨0, rfl, Nat.zero_le _, fun j hj => by omega, rfl⟩
  case round =>
    obtain ⟨k, rfl, hk, hall, rfl⟩ := hrel
    by_cases hlt : k < x2.length
    · obtain ⟨b, off, rfl, _, hc⟩ := (P2.out.up HB2.out (Nat.le_refl _)).at hlt
      obtain ⟨x, hx⟩ : ∃ x, x = x2.getD k 0 := ⟨_, rfl⟩
      rw [← hx] at hc
      have HX := Lib.hid hx
      clear hx
      by_cases hq : (FloatKind.f32.format.order x 0 == some .lt) = true
      · have HNO := Lib.hid (validR_false (r := ⟨n0, x1, x2, x3⟩) (fun h => by
          have h1 := lt_of_least (h.lb k hlt)
          simp only at h1
          rw [← HX.out, hq] at h1
          cases h1))
        go_wp2_with fail
        go_ret
        exact ⟨by rw [HNO.out]; rfl, HB2.out⟩
      · rw [Bool.not_eq_true] at hq
        go_wp2_with fail
        go_roundw
        case rel => exact ⟨k + 1, by go_num, by omega, fun j hj => by
          rcases Nat.lt_succ_iff_lt_or_eq.1 hj with h | rfl
          · exact hall.out j h
          · rw [← HX.out]; exact hq, by first | trivial | rfl⟩
        case measure => simp [intOf]; omega
    · obtain rfl : k = x2.length := by omega
      go_wp2_with fail
      refine (areFinite_any _ x2 _ (P2.out.up HB2.out (Nat.le_refl _))).mono ?_
      rintro e w1 ⟨rfl, hd1⟩
      have HB3 := Lib.hid (show Below w.heap.size w w1 by obtain ⟨m, rfl⟩ := hd1; exact below_drewN HB2.out _)
      have HK3 := Lib.hid (show Blk w1 w.heap.size 35 #[.int .i64 n0, .slice a1 x1.length c1, .slice a2 x2.length c2, .slice a3 x3.length c3] by obtain ⟨m, rfl⟩ := hd1; exact HK2.out)
      clear hd1
      by_cases hf2 : allFin x2 = true
      case neg =>
        rw [Bool.not_eq_true] at hf2
        have HNO := Lib.hid (validR_false (r := ⟨n0, x1, x2, x3⟩) (fun h => by
          have : allFin x2 = true := allFin_yes fun i hi => least_fin (h.lb i hi)
          rw [hf2] at this; cases this))
        rw [hf2]
        go_wp2_with fail
        go_ret
        exact ⟨by rw [HNO.out]; rfl, HB3.out⟩
      rw [hf2]
      have HF2 := Lib.hid hf2
      clear hf2
      have d3 : w1.cell? ⟨w.heap.size, 3, none⟩ = some (.slice a3 x3.length c3) := HK3.out.cell 3 rfl
      go_wp2_with fail
      refine (areFinite_any _ x3 _ (P3.out.up HB3.out (Nat.le_refl _))).mono ?_
      rintro e w2 ⟨rfl, hd1⟩
      have HB4 := Lib.hid (show Below w.heap.size w w2 by obtain ⟨m, rfl⟩ := hd1; exact below_drewN HB3.out _)
      have HK4 := Lib.hid (show Blk w2 w.heap.size 35 #[.int .i64 n0, .slice a1 x1.length c1, .slice a2 x2.length c2, .slice a3 x3.length c3] by obtain ⟨m, rfl⟩ := hd1; exact HK3.out)
      clear hd1 d3
      by_cases hf3 : allFin x3 = true
      case neg =>
        rw [Bool.not_eq_true] at hf3
        have HNO := Lib.hid (validR_false (r := ⟨n0, x1, x2, x3⟩) (fun h => by
          have := h.fg
          simp only at this
          rw [hf3] at this; cases this))
        rw [hf3]
        go_wp2_with fail
        go_ret
        exact ⟨by rw [HNO.out]; rfl, HB4.out⟩
      rw [hf3]
      have HF3 := Lib.hid hf3
      clear hf3
      have d1 : w2.cell? ⟨w.heap.size, 1, none⟩ = some (.slice a1 x1.length c1) := HK4.out.cell 1 rfl
      go_wp2_with fail
      refine (areFinite_any _ x1 _ (P1.out.up HB4.out (Nat.le_refl _))).mono ?_
      rintro e w3 ⟨rfl, hd1⟩
      have HB5 := Lib.hid (show Below w.heap.size w w3 by obtain ⟨m, rfl⟩ := hd1; exact below_drewN HB4.out _)
      clear hd1 d1
      have HV : Hid (validR ⟨n0, x1, x2, x3⟩ = allFin x1) := by
        show validR _ = allFin x1
        by_cases hf1 : allFin x1 = true
        · rw [hf1]
          exact validR_true ⟨HA.out.1, HA.out.2, HBB.out.1, HBB.out.2, HC.out, HD.out, hf1, HF3.out, fun i hi => least_of (allFin_get HF2.out hi) (hall.out i hi)⟩
        · rw [Bool.not_eq_true] at hf1
          rw [hf1]
          exact validR_false (fun h => by have := h.fn; simp only at this; rw [hf1] at this; cases this)
      go_wp2_with fail
      go_ret
      exact ⟨by rw [HV.out]; rfl, HB5.out⟩

set_option maxHeartbeats 4000000 in
set_option maxRecDepth 4000 in
theorem ValidRows_any (v : Value) (r : RowsD) (w : World) (h : RdR w v r) :
    Calls Tryd.prog 35 #[v] w fun e w' => e = .returned (.bool (validR r)) ∧ Below w.heap.size w w' := by
  obtain ⟨a1, c1, a2, c2, a3, c3, rfl⟩ := h.shape
  obtain ⟨p1, p2, p3⟩ := h.parts
  obtain ⟨n0, x1, x2, x3⟩ := r
  simp only at p1 p2 p3 ⊢
  have l1 := p1.len
  have l2 := p2.len
  have l3 := p3.len
  unfold maxLen at l1 l2 l3
  have P1 := Lib.hid p1
  have P2 := Lib.hid p2
  have P3 := Lib.hid p3
  clear h p1 p2 p3
  by_cases hA : 1 ≤ n0 ∧ n0 ≤ 8
  case neg => exact VR_hA n0 x1 x2 x3 a1 a2 a3 c1 c2 c3 w P1 P2 P3 (by omega) (by omega) (by omega) hA
  by_cases hB : 1 ≤ x2.length ∧ x2.length ≤ 8
  case neg => exact VR_hB n0 x1 x2 x3 a1 a2 a3 c1 c2 c3 w P1 P2 P3 (by omega) (by omega) (by omega) hA hB
  by_cases hC : (x3.length : Int) = n0
  case neg => exact VR_hC n0 x1 x2 x3 a1 a2 a3 c1 c2 c3 w P1 P2 P3 (by omega) (by omega) (by omega) hA hB hC
  by_cases hD : (x1.length : Int) = n0 * x2.length
  case neg => exact VR_hD n0 x1 x2 x3 a1 a2 a3 c1 c2 c3 w P1 P2 P3 (by omega) (by omega) (by omega) hA hB hC hD
  exact VR_yes n0 x1 x2 x3 a1 a2 a3 c1 c2 c3 w P1 P2 P3 (by omega) (by omega) (by omega) hA hB hC hD


end Go.Proofs.YtggpbekclegfoaaDoor

namespace Go.Proofs.YtggpbekclegfoaaDoor
open Go.RowKit

theorem l02Finite_qs (v : Value) (xs : List Nat) (w : World) (n : Nat) (h : RdF w v xs) :
    Calls Tryd.prog 56 #[v] (w.drewN n) fun e w'' => e = .returned (.bool (allFin xs)) ∧ ∃ m, w'' = w.drewN m := by
  refine (l02Finite_any v xs _ (h.drewN n)).mono ?_
  rintro e w' ⟨rfl, hd⟩
  exact ⟨rfl, drewN_then ⟨n, rfl⟩ hd⟩

/-- Cells that lie side by side. -/
def Cels (w : World) (b : Nat) (cs : Array Value) : Prop := ∀ (j : Nat) (u : Value), cs[j]? = some u → w.cell? ⟨b, j, none⟩ = some u
theorem Cels.cell {w : World} {b : Nat} {cs : Array Value} (h : Cels w b cs) (j : Nat) {u : Value} (hj : cs[j]? = some u) : w.cell? ⟨b, j, none⟩ = some u := h j u hj
theorem Blk.cels {w : World} {b : Nat} {t : TypeId} {cs : Array Value} (h : Blk w b t cs) : Cels w b cs := fun j _ hj => h.cell j hj

set_option maxHeartbeats 4000000 in
set_option maxRecDepth 4000 in
theorem LI_hA (bb : Nat) (n0 : Int) (x1 x2 x3 : List Nat) (a1 a2 a3 : Option Addr) (c1 c2 c3 : Nat) (w : World) (HK : Hid (Cels w bb #[.int .i64 n0, .slice a1 x1.length c1, .slice a2 x2.length c2, .slice a3 x3.length c3])) (P1 : Hid (RdF w (.slice a1 x1.length c1) x1)) (P2 : Hid (RdF w (.slice a2 x2.length c2) x2)) (P3 : Hid (RdF w (.slice a3 x3.length c3) x3)) (l1 : x1.length ≤ 9223372036854775807) (l2 : x2.length ≤ 9223372036854775807) (l3 : x3.length ≤ 9223372036854775807)
    (hA : ¬ (1 ≤ n0 ∧ n0 ≤ 8)) :
    Calls Tryd.prog 32 #[.pointer (some ⟨bb, 0, none⟩)] w fun e w' => e = .returned (.bool (validR ⟨n0, x1, x2, x3⟩)) ∧ ∃ m, w' = w.drewN m := by
  have hin := inB_false (lo := 1) (hi := 8) (n := n0) hA
  have HNO := Lib.hid (validR_false (r := ⟨n0, x1, x2, x3⟩) (fun h => hA ⟨h.v1, h.v8⟩))
  clear hA
  have d0 : w.cell? ⟨bb, 0, none⟩ = some (.int .i64 n0) := HK.out.cell 0 rfl
  have d1 : w.cell? ⟨bb, 1, none⟩ = some (.slice a1 x1.length c1) := HK.out.cell 1 rfl
  have d2 : w.cell? ⟨bb, 2, none⟩ = some (.slice a2 x2.length c2) := HK.out.cell 2 rfl
  have d3 : w.cell? ⟨bb, 3, none⟩ = some (.slice a3 x3.length c3) := HK.out.cell 3 rfl
  go_enter Tryd.func32, Tryd.ntmps32
  go_wp2_with fail
  go_quiet ((go_at_call 55; exact quiet_same (in_any _ _ _ _)))
  go_wp2_with fail
  go_ret
  exact ⟨by rw [HNO.out]; rfl, _, rfl⟩

set_option maxHeartbeats 4000000 in
set_option maxRecDepth 4000 in
theorem LI_hB (bb : Nat) (n0 : Int) (x1 x2 x3 : List Nat) (a1 a2 a3 : Option Addr) (c1 c2 c3 : Nat) (w : World) (HK : Hid (Cels w bb #[.int .i64 n0, .slice a1 x1.length c1, .slice a2 x2.length c2, .slice a3 x3.length c3])) (P1 : Hid (RdF w (.slice a1 x1.length c1) x1)) (P2 : Hid (RdF w (.slice a2 x2.length c2) x2)) (P3 : Hid (RdF w (.slice a3 x3.length c3) x3)) (l1 : x1.length ≤ 9223372036854775807) (l2 : x2.length ≤ 9223372036854775807) (l3 : x3.length ≤ 9223372036854775807)
    (hA : 1 ≤ n0 ∧ n0 ≤ 8) (hB : ¬ (1 ≤ x2.length)) :
    Calls Tryd.prog 32 #[.pointer (some ⟨bb, 0, none⟩)] w fun e w' => e = .returned (.bool (validR ⟨n0, x1, x2, x3⟩)) ∧ ∃ m, w' = w.drewN m := by
  have hin := inB_true (lo := 1) (hi := 8) (n := n0) hA
  have hb1 : decide ((x2.length : Int) < 1) = true := by simp; omega
  have HNO := Lib.hid (validR_false (r := ⟨n0, x1, x2, x3⟩) (fun h => hB h.b1))
  clear hA hB
  have d0 : w.cell? ⟨bb, 0, none⟩ = some (.int .i64 n0) := HK.out.cell 0 rfl
  have d1 : w.cell? ⟨bb, 1, none⟩ = some (.slice a1 x1.length c1) := HK.out.cell 1 rfl
  have d2 : w.cell? ⟨bb, 2, none⟩ = some (.slice a2 x2.length c2) := HK.out.cell 2 rfl
  have d3 : w.cell? ⟨bb, 3, none⟩ = some (.slice a3 x3.length c3) := HK.out.cell 3 rfl
  go_enter Tryd.func32, Tryd.ntmps32
  go_wp2_with fail
  go_quiet ((go_at_call 55; exact quiet_same (in_any _ _ _ _)))
  go_wp2_with fail
  go_ret
  exact ⟨by rw [HNO.out]; rfl, _, rfl⟩

set_option maxHeartbeats 4000000 in
set_option maxRecDepth 4000 in
theorem LI_hE (bb : Nat) (n0 : Int) (x1 x2 x3 : List Nat) (a1 a2 a3 : Option Addr) (c1 c2 c3 : Nat) (w : World) (HK : Hid (Cels w bb #[.int .i64 n0, .slice a1 x1.length c1, .slice a2 x2.length c2, .slice a3 x3.length c3])) (P1 : Hid (RdF w (.slice a1 x1.length c1) x1)) (P2 : Hid (RdF w (.slice a2 x2.length c2) x2)) (P3 : Hid (RdF w (.slice a3 x3.length c3) x3)) (l1 : x1.length ≤ 9223372036854775807) (l2 : x2.length ≤ 9223372036854775807) (l3 : x3.length ≤ 9223372036854775807)
    (hA : 1 ≤ n0 ∧ n0 ≤ 8) (hB : 1 ≤ x2.length) (hE : ¬ (x2.length ≤ 8)) :
    Calls Tryd.prog 32 #[.pointer (some ⟨bb, 0, none⟩)] w fun e w' => e = .returned (.bool (validR ⟨n0, x1, x2, x3⟩)) ∧ ∃ m, w' = w.drewN m := by
  have hin := inB_true (lo := 1) (hi := 8) (n := n0) hA
  have hb1 : decide ((x2.length : Int) < 1) = false := by simp; omega
  have hb8 : decide ((8 : Int) < x2.length) = true := by simp; omega
  have HNO := Lib.hid (validR_false (r := ⟨n0, x1, x2, x3⟩) (fun h => hE h.b8))
  clear hA hE
  have d0 : w.cell? ⟨bb, 0, none⟩ = some (.int .i64 n0) := HK.out.cell 0 rfl
  have d1 : w.cell? ⟨bb, 1, none⟩ = some (.slice a1 x1.length c1) := HK.out.cell 1 rfl
  have d2 : w.cell? ⟨bb, 2, none⟩ = some (.slice a2 x2.length c2) := HK.out.cell 2 rfl
  have d3 : w.cell? ⟨bb, 3, none⟩ = some (.slice a3 x3.length c3) := HK.out.cell 3 rfl
  go_enter Tryd.func32, Tryd.ntmps32
  go_wp2_with fail
  go_quiet ((go_at_call 55; exact quiet_same (in_any _ _ _ _)))
  go_wp2_with fail
  go_ret
  exact ⟨by rw [HNO.out]; rfl, _, rfl⟩

set_option maxHeartbeats 4000000 in
set_option maxRecDepth 4000 in
theorem LI_hC (bb : Nat) (n0 : Int) (x1 x2 x3 : List Nat) (a1 a2 a3 : Option Addr) (c1 c2 c3 : Nat) (w : World) (HK : Hid (Cels w bb #[.int .i64 n0, .slice a1 x1.length c1, .slice a2 x2.length c2, .slice a3 x3.length c3])) (P1 : Hid (RdF w (.slice a1 x1.length c1) x1)) (P2 : Hid (RdF w (.slice a2 x2.length c2) x2)) (P3 : Hid (RdF w (.slice a3 x3.length c3) x3)) (l1 : x1.length ≤ 9223372036854775807) (l2 : x2.length ≤ 9223372036854775807) (l3 : x3.length ≤ 9223372036854775807)
    (hA : 1 ≤ n0 ∧ n0 ≤ 8) (hB : 1 ≤ x2.length) (hE : x2.length ≤ 8) (hC : ¬ ((x3.length : Int) = n0)) :
    Calls Tryd.prog 32 #[.pointer (some ⟨bb, 0, none⟩)] w fun e w' => e = .returned (.bool (validR ⟨n0, x1, x2, x3⟩)) ∧ ∃ m, w' = w.drewN m := by
  have hin := inB_true (lo := 1) (hi := 8) (n := n0) hA
  have hb1 : decide ((x2.length : Int) < 1) = false := by simp; omega
  have hb8 : decide ((8 : Int) < x2.length) = false := by simp; omega
  have hcb : ((x3.length : Int) != n0) = true := by simp [hC]
  have HNO := Lib.hid (validR_false (r := ⟨n0, x1, x2, x3⟩) (fun h => hC h.gl))
  clear hA hC
  have d0 : w.cell? ⟨bb, 0, none⟩ = some (.int .i64 n0) := HK.out.cell 0 rfl
  have d1 : w.cell? ⟨bb, 1, none⟩ = some (.slice a1 x1.length c1) := HK.out.cell 1 rfl
  have d2 : w.cell? ⟨bb, 2, none⟩ = some (.slice a2 x2.length c2) := HK.out.cell 2 rfl
  have d3 : w.cell? ⟨bb, 3, none⟩ = some (.slice a3 x3.length c3) := HK.out.cell 3 rfl
  go_enter Tryd.func32, Tryd.ntmps32
  go_wp2_with fail
  go_quiet ((go_at_call 55; exact quiet_same (in_any _ _ _ _)))
  go_wp2_with fail
  go_ret
  exact ⟨by rw [HNO.out]; rfl, _, rfl⟩

set_option maxHeartbeats 4000000 in
set_option maxRecDepth 4000 in
theorem LI_hD (bb : Nat) (n0 : Int) (x1 x2 x3 : List Nat) (a1 a2 a3 : Option Addr) (c1 c2 c3 : Nat) (w : World) (HK : Hid (Cels w bb #[.int .i64 n0, .slice a1 x1.length c1, .slice a2 x2.length c2, .slice a3 x3.length c3])) (P1 : Hid (RdF w (.slice a1 x1.length c1) x1)) (P2 : Hid (RdF w (.slice a2 x2.length c2) x2)) (P3 : Hid (RdF w (.slice a3 x3.length c3) x3)) (l1 : x1.length ≤ 9223372036854775807) (l2 : x2.length ≤ 9223372036854775807) (l3 : x3.length ≤ 9223372036854775807)
    (hA : 1 ≤ n0 ∧ n0 ≤ 8) (hB : 1 ≤ x2.length) (hE : x2.length ≤ 8) (hC : (x3.length : Int) = n0) (hD : ¬ ((x1.length : Int) = n0 * x2.length)) :
    Calls Tryd.prog 32 #[.pointer (some ⟨bb, 0, none⟩)] w fun e w' => e = .returned (.bool (validR ⟨n0, x1, x2, x3⟩)) ∧ ∃ m, w' = w.drewN m := by
  have hin := inB_true (lo := 1) (hi := 8) (n := n0) hA
  have hb1 : decide ((x2.length : Int) < 1) = false := by simp; omega
  have hb8 : decide ((8 : Int) < x2.length) = false := by simp; omega
  have hcb : ((x3.length : Int) != n0) = false := by simp [hC]
  obtain ⟨M, hM⟩ : ∃ M : Int, M = n0 * x2.length := ⟨_, rfl⟩
  have hM0 : 0 ≤ M ∧ M ≤ 64 := by have := mulR hA.1 hA.2 hE; omega
  have hmul : IntKind.i64.wrap (n0 * (x2.length : Int)) = M := by rw [IntWalk.i64_in _ (by omega), hM]
  have hdb : ((x1.length : Int) != M) = true := by rw [hM]; simp [hD]
  have HM := Lib.hid hM
  clear hM
  have HNO := Lib.hid (validR_false (r := ⟨n0, x1, x2, x3⟩) (fun h => hD h.nl))
  clear hA hC hD
  have d0 : w.cell? ⟨bb, 0, none⟩ = some (.int .i64 n0) := HK.out.cell 0 rfl
  have d1 : w.cell? ⟨bb, 1, none⟩ = some (.slice a1 x1.length c1) := HK.out.cell 1 rfl
  have d2 : w.cell? ⟨bb, 2, none⟩ = some (.slice a2 x2.length c2) := HK.out.cell 2 rfl
  have d3 : w.cell? ⟨bb, 3, none⟩ = some (.slice a3 x3.length c3) := HK.out.cell 3 rfl
  go_enter Tryd.func32, Tryd.ntmps32
  go_wp2_with fail
  go_quiet ((go_at_call 55; exact quiet_same (in_any _ _ _ _)))
  obtain ⟨W2, hW2⟩ : ∃ W2, W2 = w.drewN nq := ⟨_, rfl⟩
  rw [← hW2]
  have HK2 := Lib.hid (show Cels W2 bb #[.int .i64 n0, .slice a1 x1.length c1, .slice a2 x2.length c2, .slice a3 x3.length c3] by subst hW2; exact HK.out)
  have Q1 := Lib.hid (show RdF W2 _ x1 by subst hW2; exact P1.out.drewN _)
  have Q2 := Lib.hid (show RdF W2 _ x2 by subst hW2; exact P2.out.drewN _)
  have Q3 := Lib.hid (show RdF W2 _ x3 by subst hW2; exact P3.out.drewN _)
  have HD2 := Lib.hid (show ∃ m, W2 = w.drewN m from ⟨_, hW2⟩)
  clear hW2 d0 d1 d2 d3
  have d0 : W2.cell? ⟨bb, 0, none⟩ = some (.int .i64 n0) := HK2.out.cell 0 rfl
  have d1 : W2.cell? ⟨bb, 1, none⟩ = some (.slice a1 x1.length c1) := HK2.out.cell 1 rfl
  have d2 : W2.cell? ⟨bb, 2, none⟩ = some (.slice a2 x2.length c2) := HK2.out.cell 2 rfl
  have d3 : W2.cell? ⟨bb, 3, none⟩ = some (.slice a3 x3.length c3) := HK2.out.cell 3 rfl
  go_wp2_with fail
  go_quiet (first
    | (go_at_call 56; exact l02Finite_qs _ x1 _ _ Q1.out)
    | (go_at_call 56; exact l02Finite_qs _ x3 _ _ Q3.out))
  go_wp2_with fail
  go_ret
  exact ⟨by rw [HNO.out]; rfl, drewN_ex HD2.out _⟩

set_option maxHeartbeats 4000000 in
set_option maxRecDepth 4000 in
theorem LI_hF (bb : Nat) (n0 : Int) (x1 x2 x3 : List Nat) (a1 a2 a3 : Option Addr) (c1 c2 c3 : Nat) (w : World) (HK : Hid (Cels w bb #[.int .i64 n0, .slice a1 x1.length c1, .slice a2 x2.length c2, .slice a3 x3.length c3])) (P1 : Hid (RdF w (.slice a1 x1.length c1) x1)) (P2 : Hid (RdF w (.slice a2 x2.length c2) x2)) (P3 : Hid (RdF w (.slice a3 x3.length c3) x3)) (l1 : x1.length ≤ 9223372036854775807) (l2 : x2.length ≤ 9223372036854775807) (l3 : x3.length ≤ 9223372036854775807)
    (hA : 1 ≤ n0 ∧ n0 ≤ 8) (hB : 1 ≤ x2.length) (hE : x2.length ≤ 8) (hC : (x3.length : Int) = n0) (hD : (x1.length : Int) = n0 * x2.length) (hF : ¬ (allFin x1 = true)) :
    Calls Tryd.prog 32 #[.pointer (some ⟨bb, 0, none⟩)] w fun e w' => e = .returned (.bool (validR ⟨n0, x1, x2, x3⟩)) ∧ ∃ m, w' = w.drewN m := by
  have hin := inB_true (lo := 1) (hi := 8) (n := n0) hA
  have hb1 : decide ((x2.length : Int) < 1) = false := by simp; omega
  have hb8 : decide ((8 : Int) < x2.length) = false := by simp; omega
  have hcb : ((x3.length : Int) != n0) = false := by simp [hC]
  obtain ⟨M, hM⟩ : ∃ M : Int, M = n0 * x2.length := ⟨_, rfl⟩
  have hM0 : 0 ≤ M ∧ M ≤ 64 := by have := mulR hA.1 hA.2 hE; omega
  have hmul : IntKind.i64.wrap (n0 * (x2.length : Int)) = M := by rw [IntWalk.i64_in _ (by omega), hM]
  have hdb : ((x1.length : Int) != M) = false := by rw [hM]; simp [hD]
  have HM := Lib.hid hM
  clear hM
  have hfb : allFin x1 = false := by simpa using hF
  have HNO := Lib.hid (validR_false (r := ⟨n0, x1, x2, x3⟩) (fun h => hF h.fn))
  clear hA hC hD hF
  have d0 : w.cell? ⟨bb, 0, none⟩ = some (.int .i64 n0) := HK.out.cell 0 rfl
  have d1 : w.cell? ⟨bb, 1, none⟩ = some (.slice a1 x1.length c1) := HK.out.cell 1 rfl
  have d2 : w.cell? ⟨bb, 2, none⟩ = some (.slice a2 x2.length c2) := HK.out.cell 2 rfl
  have d3 : w.cell? ⟨bb, 3, none⟩ = some (.slice a3 x3.length c3) := HK.out.cell 3 rfl
  go_enter Tryd.func32, Tryd.ntmps32
  go_wp2_with fail
  go_quiet ((go_at_call 55; exact quiet_same (in_any _ _ _ _)))
  obtain ⟨W2, hW2⟩ : ∃ W2, W2 = w.drewN nq := ⟨_, rfl⟩
  rw [← hW2]
  have HK2 := Lib.hid (show Cels W2 bb #[.int .i64 n0, .slice a1 x1.length c1, .slice a2 x2.length c2, .slice a3 x3.length c3] by subst hW2; exact HK.out)
  have Q1 := Lib.hid (show RdF W2 _ x1 by subst hW2; exact P1.out.drewN _)
  have Q2 := Lib.hid (show RdF W2 _ x2 by subst hW2; exact P2.out.drewN _)
  have Q3 := Lib.hid (show RdF W2 _ x3 by subst hW2; exact P3.out.drewN _)
  have HD2 := Lib.hid (show ∃ m, W2 = w.drewN m from ⟨_, hW2⟩)
  clear hW2 d0 d1 d2 d3
  have d0 : W2.cell? ⟨bb, 0, none⟩ = some (.int .i64 n0) := HK2.out.cell 0 rfl
  have d1 : W2.cell? ⟨bb, 1, none⟩ = some (.slice a1 x1.length c1) := HK2.out.cell 1 rfl
  have d2 : W2.cell? ⟨bb, 2, none⟩ = some (.slice a2 x2.length c2) := HK2.out.cell 2 rfl
  have d3 : W2.cell? ⟨bb, 3, none⟩ = some (.slice a3 x3.length c3) := HK2.out.cell 3 rfl
  go_wp2_with fail
  go_quiet (first
    | (go_at_call 56; exact l02Finite_qs _ x1 _ _ Q1.out)
    | (go_at_call 56; exact l02Finite_qs _ x3 _ _ Q3.out))
  go_wp2_with fail
  go_ret
  exact ⟨by rw [HNO.out]; rfl, drewN_ex HD2.out _⟩

set_option maxHeartbeats 4000000 in
set_option maxRecDepth 4000 in
theorem LI_hG (bb : Nat) (n0 : Int) (x1 x2 x3 : List Nat) (a1 a2 a3 : Option Addr) (c1 c2 c3 : Nat) (w : World) (HK : Hid (Cels w bb #[.int .i64 n0, .slice a1 x1.length c1, .slice a2 x2.length c2, .slice a3 x3.length c3])) (P1 : Hid (RdF w (.slice a1 x1.length c1) x1)) (P2 : Hid (RdF w (.slice a2 x2.length c2) x2)) (P3 : Hid (RdF w (.slice a3 x3.length c3) x3)) (l1 : x1.length ≤ 9223372036854775807) (l2 : x2.length ≤ 9223372036854775807) (l3 : x3.length ≤ 9223372036854775807)
    (hA : 1 ≤ n0 ∧ n0 ≤ 8) (hB : 1 ≤ x2.length) (hE : x2.length ≤ 8) (hC : (x3.length : Int) = n0) (hD : (x1.length : Int) = n0 * x2.length) (hF : allFin x1 = true) (hG : ¬ (allFin x3 = true)) :
    Calls Tryd.prog 32 #[.pointer (some ⟨bb, 0, none⟩)] w fun e w' => e = .returned (.bool (validR ⟨n0, x1, x2, x3⟩)) ∧ ∃ m, w' = w.drewN m := by
  have hin := inB_true (lo := 1) (hi := 8) (n := n0) hA
  have hb1 : decide ((x2.length : Int) < 1) = false := by simp; omega
  have hb8 : decide ((8 : Int) < x2.length) = false := by simp; omega
  have hcb : ((x3.length : Int) != n0) = false := by simp [hC]
  obtain ⟨M, hM⟩ : ∃ M : Int, M = n0 * x2.length := ⟨_, rfl⟩
  have hM0 : 0 ≤ M ∧ M ≤ 64 := by have := mulR hA.1 hA.2 hE; omega
  have hmul : IntKind.i64.wrap (n0 * (x2.length : Int)) = M := by rw [IntWalk.i64_in _ (by omega), hM]
  have hdb : ((x1.length : Int) != M) = false := by rw [hM]; simp [hD]
  have HM := Lib.hid hM
  clear hM
  have hgb : allFin x3 = false := by simpa using hG
  have HNO := Lib.hid (validR_false (r := ⟨n0, x1, x2, x3⟩) (fun h => hG h.fg))
  clear hA hC hD hG
  have d0 : w.cell? ⟨bb, 0, none⟩ = some (.int .i64 n0) := HK.out.cell 0 rfl
  have d1 : w.cell? ⟨bb, 1, none⟩ = some (.slice a1 x1.length c1) := HK.out.cell 1 rfl
  have d2 : w.cell? ⟨bb, 2, none⟩ = some (.slice a2 x2.length c2) := HK.out.cell 2 rfl
  have d3 : w.cell? ⟨bb, 3, none⟩ = some (.slice a3 x3.length c3) := HK.out.cell 3 rfl
  go_enter Tryd.func32, Tryd.ntmps32
  go_wp2_with fail
  go_quiet ((go_at_call 55; exact quiet_same (in_any _ _ _ _)))
  obtain ⟨W2, hW2⟩ : ∃ W2, W2 = w.drewN nq := ⟨_, rfl⟩
  rw [← hW2]
  have HK2 := Lib.hid (show Cels W2 bb #[.int .i64 n0, .slice a1 x1.length c1, .slice a2 x2.length c2, .slice a3 x3.length c3] by subst hW2; exact HK.out)
  have Q1 := Lib.hid (show RdF W2 _ x1 by subst hW2; exact P1.out.drewN _)
  have Q2 := Lib.hid (show RdF W2 _ x2 by subst hW2; exact P2.out.drewN _)
  have Q3 := Lib.hid (show RdF W2 _ x3 by subst hW2; exact P3.out.drewN _)
  have HD2 := Lib.hid (show ∃ m, W2 = w.drewN m from ⟨_, hW2⟩)
  clear hW2 d0 d1 d2 d3
  have d0 : W2.cell? ⟨bb, 0, none⟩ = some (.int .i64 n0) := HK2.out.cell 0 rfl
  have d1 : W2.cell? ⟨bb, 1, none⟩ = some (.slice a1 x1.length c1) := HK2.out.cell 1 rfl
  have d2 : W2.cell? ⟨bb, 2, none⟩ = some (.slice a2 x2.length c2) := HK2.out.cell 2 rfl
  have d3 : W2.cell? ⟨bb, 3, none⟩ = some (.slice a3 x3.length c3) := HK2.out.cell 3 rfl
  go_wp2_with fail
  go_quiet (first
    | (go_at_call 56; exact l02Finite_qs _ x1 _ _ Q1.out)
    | (go_at_call 56; exact l02Finite_qs _ x3 _ _ Q3.out))
  go_wp2_with fail
  go_ret
  exact ⟨by rw [HNO.out]; rfl, drewN_ex HD2.out _⟩

set_option maxHeartbeats 4000000 in
set_option maxRecDepth 4000 in
theorem LI_yes (bb : Nat) (n0 : Int) (x1 x2 x3 : List Nat) (a1 a2 a3 : Option Addr) (c1 c2 c3 : Nat) (w : World) (HK : Hid (Cels w bb #[.int .i64 n0, .slice a1 x1.length c1, .slice a2 x2.length c2, .slice a3 x3.length c3])) (P1 : Hid (RdF w (.slice a1 x1.length c1) x1)) (P2 : Hid (RdF w (.slice a2 x2.length c2) x2)) (P3 : Hid (RdF w (.slice a3 x3.length c3) x3)) (l1 : x1.length ≤ 9223372036854775807) (l2 : x2.length ≤ 9223372036854775807) (l3 : x3.length ≤ 9223372036854775807)
    (hA : 1 ≤ n0 ∧ n0 ≤ 8) (hB : 1 ≤ x2.length) (hE : x2.length ≤ 8) (hC : (x3.length : Int) = n0) (hD : (x1.length : Int) = n0 * x2.length) (hF : allFin x1 = true) (hG : allFin x3 = true)  :
    Calls Tryd.prog 32 #[.pointer (some ⟨bb, 0, none⟩)] w fun e w' => e = .returned (.bool (validR ⟨n0, x1, x2, x3⟩)) ∧ ∃ m, w' = w.drewN m := by
  have hin := inB_true (lo := 1) (hi := 8) (n := n0) hA
  have hb1 : decide ((x2.length : Int) < 1) = false := by simp; omega
  have hb8 : decide ((8 : Int) < x2.length) = false := by simp; omega
  have hcb : ((x3.length : Int) != n0) = false := by simp [hC]
  obtain ⟨M, hM⟩ : ∃ M : Int, M = n0 * x2.length := ⟨_, rfl⟩
  have hM0 : 0 ≤ M ∧ M ≤ 64 := by have := mulR hA.1 hA.2 hE; omega
  have hmul : IntKind.i64.wrap (n0 * (x2.length : Int)) = M := by rw [IntWalk.i64_in _ (by omega), hM]
  have hdb : ((x1.length : Int) != M) = false := by rw [hM]; simp [hD]
  have HM := Lib.hid hM
  clear hM
  have HA := Lib.hid hA
  have HB := Lib.hid hB
  have HE := Lib.hid hE
  have HC := Lib.hid hC
  have HD := Lib.hid hD
  have HF := Lib.hid hF
  have HG := Lib.hid hG
  clear hA hC hD
  have d0 : w.cell? ⟨bb, 0, none⟩ = some (.int .i64 n0) := HK.out.cell 0 rfl
  have d1 : w.cell? ⟨bb, 1, none⟩ = some (.slice a1 x1.length c1) := HK.out.cell 1 rfl
  have d2 : w.cell? ⟨bb, 2, none⟩ = some (.slice a2 x2.length c2) := HK.out.cell 2 rfl
  have d3 : w.cell? ⟨bb, 3, none⟩ = some (.slice a3 x3.length c3) := HK.out.cell 3 rfl
  go_enter Tryd.func32, Tryd.ntmps32
  go_wp2_with fail
  go_quiet ((go_at_call 55; exact quiet_same (in_any _ _ _ _)))
  obtain ⟨W2, hW2⟩ : ∃ W2, W2 = w.drewN nq := ⟨_, rfl⟩
  rw [← hW2]
  have HK2 := Lib.hid (show Cels W2 bb #[.int .i64 n0, .slice a1 x1.length c1, .slice a2 x2.length c2, .slice a3 x3.length c3] by subst hW2; exact HK.out)
  have Q1 := Lib.hid (show RdF W2 _ x1 by subst hW2; exact P1.out.drewN _)
  have Q2 := Lib.hid (show RdF W2 _ x2 by subst hW2; exact P2.out.drewN _)
  have Q3 := Lib.hid (show RdF W2 _ x3 by subst hW2; exact P3.out.drewN _)
  have HD2 := Lib.hid (show ∃ m, W2 = w.drewN m from ⟨_, hW2⟩)
  clear hW2 d0 d1 d2 d3
  have d0 : W2.cell? ⟨bb, 0, none⟩ = some (.int .i64 n0) := HK2.out.cell 0 rfl
  have d1 : W2.cell? ⟨bb, 1, none⟩ = some (.slice a1 x1.length c1) := HK2.out.cell 1 rfl
  have d2 : W2.cell? ⟨bb, 2, none⟩ = some (.slice a2 x2.length c2) := HK2.out.cell 2 rfl
  have d3 : W2.cell? ⟨bb, 3, none⟩ = some (.slice a3 x3.length c3) := HK2.out.cell 3 rfl
  go_wp2_with fail
  go_quiet (first
    | (go_at_call 56; exact l02Finite_qs _ x1 _ _ Q1.out)
    | (go_at_call 56; exact l02Finite_qs _ x3 _ _ Q3.out))
  obtain ⟨W3, hW3⟩ : ∃ W3, W3 = W2.drewN nq := ⟨_, rfl⟩
  rw [← hW3]
  have HK3 := Lib.hid (show Cels W3 bb #[.int .i64 n0, .slice a1 x1.length c1, .slice a2 x2.length c2, .slice a3 x3.length c3] by subst hW3; exact HK2.out)
  have R2 := Lib.hid (show RdF W3 _ x2 by subst hW3; exact Q2.out.drewN _)
  have HD3 := Lib.hid (show ∃ m, W3 = w.drewN m by subst hW3; exact drewN_ex HD2.out _)
  clear hW3 d0 d1 d2 d3 hF hG hin hb1 hb8 hcb hdb hmul hM0
  go_wp2_with fail
  go_loopw [3] (fun i wr => ∃ k : Nat, i = .int .i64 k ∧ k ≤ x2.length ∧ Hid (∀ j, j < k → least (x2.getD j 0) = true) ∧ Hid (∃ m, wr = W3.drewN m)) (fun i _ => x2.length - (intOf i).toNat)
  case atStart => exact ⟨0, rfl, Nat.zero_le _, fun j hj => by omega, 0, rfl⟩
  case round =>
    obtain ⟨k, rfl, hk, hall, hd⟩ := hrel
    have d2 : wr.cell? ⟨bb, 2, none⟩ = some (.slice a2 x2.length c2) := by
      obtain ⟨m, rfl⟩ := hd.out
      exact HK3.out.cell 2 rfl
    by_cases hlt : k < x2.length
    · obtain ⟨b, off, rfl, _, hc⟩ := (rdF_drew R2.out hd.out).at hlt
      obtain ⟨x, hx⟩ : ∃ x, x = x2.getD k 0 := ⟨_, rfl⟩
      rw [← hx] at hc
      have HX := Lib.hid hx
      clear hx
      go_wp2_with fail
      refine (l02Least_any x wr).mono ?_
      rintro e w1 ⟨rfl, hd1⟩
      have HD4 := Lib.hid (drewN_then hd.out hd1)
      clear hd1 hc d2
      by_cases hf : least x = true
      · rw [hf]
        go_wp2_with fail
        go_roundw
        case rel => exact ⟨k + 1, by go_num, by omega, fun j hj => by
          rcases Nat.lt_succ_iff_lt_or_eq.1 hj with h | rfl
          · exact hall.out j h
          · rw [← HX.out]; exact hf, HD4.out⟩
        case measure => simp [intOf]; omega
      · rw [Bool.not_eq_true] at hf
        have HNO := Lib.hid (validR_false (r := ⟨n0, x1, x2, x3⟩) (fun h => by
          have h1 := h.lb k hlt
          simp only at h1
          rw [← HX.out, hf] at h1
          cases h1))
        rw [hf]
        go_wp2_with fail
        go_ret
        exact ⟨by rw [HNO.out]; rfl, drewN_then HD3.out HD4.out⟩
    · obtain rfl : k = x2.length := by omega
      have HV := Lib.hid (validR_true (r := ⟨n0, x1, x2, x3⟩) ⟨HA.out.1, HA.out.2, HB.out, HE.out, HC.out, HD.out, HF.out, HG.out, hall.out⟩)
      go_wp2_with fail
      go_ret
      exact ⟨by rw [HV.out]; rfl, drewN_then HD3.out hd.out⟩

theorem l02Is_cels (bb : Nat) (v0 v1 v2 v3 : Value) (r : RowsD) (w : World) (hk : Cels w bb #[v0, v1, v2, v3]) (h : RdR w (.agg #[v0, v1, v2, v3]) r) :
    Calls Tryd.prog 32 #[.pointer (some ⟨bb, 0, none⟩)] w fun e w' => e = .returned (.bool (validR r)) ∧ ∃ m, w' = w.drewN m := by
  obtain ⟨a1, c1, a2, c2, a3, c3, e⟩ := h.shape
  obtain ⟨p1, p2, p3⟩ := h.parts
  simp only [Value.agg.injEq, Array.mk.injEq, List.cons.injEq, and_true] at e
  obtain ⟨rfl, rfl, rfl, rfl⟩ := e
  obtain ⟨n0, x1, x2, x3⟩ := r
  simp only at p1 p2 p3 hk ⊢
  have l1 := p1.len
  have l2 := p2.len
  have l3 := p3.len
  unfold maxLen at l1 l2 l3
  have P1 := Lib.hid p1
  have P2 := Lib.hid p2
  have P3 := Lib.hid p3
  have HK := Lib.hid hk
  clear h p1 p2 p3
  by_cases hA : 1 ≤ n0 ∧ n0 ≤ 8
  case neg => exact LI_hA bb n0 x1 x2 x3 a1 a2 a3 c1 c2 c3 w HK P1 P2 P3 (by omega) (by omega) (by omega) hA
  by_cases hB : 1 ≤ x2.length
  case neg => exact LI_hB bb n0 x1 x2 x3 a1 a2 a3 c1 c2 c3 w HK P1 P2 P3 (by omega) (by omega) (by omega) hA hB
  by_cases hE : x2.length ≤ 8
  case neg => exact LI_hE bb n0 x1 x2 x3 a1 a2 a3 c1 c2 c3 w HK P1 P2 P3 (by omega) (by omega) (by omega) hA hB hE
  by_cases hC : (x3.length : Int) = n0
  case neg => exact LI_hC bb n0 x1 x2 x3 a1 a2 a3 c1 c2 c3 w HK P1 P2 P3 (by omega) (by omega) (by omega) hA hB hE hC
  by_cases hD : (x1.length : Int) = n0 * x2.length
  case neg => exact LI_hD bb n0 x1 x2 x3 a1 a2 a3 c1 c2 c3 w HK P1 P2 P3 (by omega) (by omega) (by omega) hA hB hE hC hD
  by_cases hF : allFin x1 = true
  case neg => exact LI_hF bb n0 x1 x2 x3 a1 a2 a3 c1 c2 c3 w HK P1 P2 P3 (by omega) (by omega) (by omega) hA hB hE hC hD hF
  by_cases hG : allFin x3 = true
  case neg => exact LI_hG bb n0 x1 x2 x3 a1 a2 a3 c1 c2 c3 w HK P1 P2 P3 (by omega) (by omega) (by omega) hA hB hE hC hD hF hG
  exact LI_yes bb n0 x1 x2 x3 a1 a2 a3 c1 c2 c3 w HK P1 P2 P3 (by omega) (by omega) (by omega) hA hB hE hC hD hF hG

theorem l02Is_any (bb : Nat) (v0 v1 v2 v3 : Value) (r : RowsD) (w : World) (hk : Blk w bb 35 #[v0, v1, v2, v3]) (h : RdR w (.agg #[v0, v1, v2, v3]) r) :
    Calls Tryd.prog 32 #[.pointer (some ⟨bb, 0, none⟩)] w fun e w' => e = .returned (.bool (validR r)) ∧ ∃ m, w' = w.drewN m := l02Is_cels bb v0 v1 v2 v3 r w hk.cels h

end Go.Proofs.YtggpbekclegfoaaDoor
