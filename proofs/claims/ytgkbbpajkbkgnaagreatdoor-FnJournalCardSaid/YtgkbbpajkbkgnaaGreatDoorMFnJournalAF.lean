/-
  FnJournal: texts joined: ValidR, ValidRS, DeskS, Step, AppL, TextS.
-/
import Derived.Deep.RegionHeld3
import Derived.Deep.CutRange
import Derived.Maps.AppendAt
import Derived.Deep.RegionLaw
import Derived.Test.YtgkbbpajkbkgnaaGreatDoorMFnJournalAB
import Derived.Test.YtgkbbpajkbkgnaaGreatDoorMFnJournalAC
import Derived.Test.YtgkbbpajkbkgnaaGreatDoorMFnJournalAD
import Derived.Test.YtgkbbpajkbkgnaaGreatDoorMFnJournalAE
set_option linter.unusedVariables false
set_option linter.unusedSimpArgs false
namespace Go.Proofs.YtgkbbpajkbkgnaaGreatDoor
open Go.RowKit
structure ValR (r : RowsD) : Prop where
  v1 : 1 ≤ r.vars
  v8 : r.vars ≤ 8
  b1 : 1 ≤ r.bnds.length
  b8 : r.bnds.length ≤ 8
  gl : (r.gains.length : Int) = r.vars
  nl : (r.nums.length : Int) = r.vars * r.bnds.length
  fn : allFin r.nums = true
  fg : allFin r.gains = true
  lb : ∀ i, i < r.bnds.length → least (r.bnds.getD i 0) = true
open Classical in
noncomputable def validR (r : RowsD) : Bool := decide (ValR r)
theorem validR_true {r : RowsD} (h : ValR r) : validR r = true := by simp [validR, h]
theorem validR_false {r : RowsD} (h : ¬ ValR r) : validR r = false := by simp [validR, h]
theorem validR_iff {r : RowsD} : validR r = true ↔ ValR r := by simp [validR]
theorem least_fin {x : Nat} (h : least x = true) : fin32 x = true := by
  unfold least at h; simp only [Bool.and_eq_true] at h; exact h.1
theorem lt_of_least {x : Nat} (h : least x = true) : (FloatKind.f32.format.order x 0 == some .lt) = false := by
  rw [lt_geq (least_fin h)]
  unfold least at h; simp only [Bool.and_eq_true] at h
  simp [h.2]
theorem least_of {x : Nat} (hf : fin32 x = true) (h : (FloatKind.f32.format.order x 0 == some .lt) = false) : least x = true := by
  rw [lt_geq hf] at h
  unfold least
  simp at h
  simp [hf, h]
theorem mulR {n0 : Int} {k : Nat} (h1 : 1 ≤ n0) (h8 : n0 ≤ 8) (hk : k ≤ 8) : 0 ≤ n0 * (k : Int) ∧ n0 * (k : Int) ≤ 64 := by
  constructor
  · exact Int.mul_nonneg (by omega) (by omega)
  · have : n0 * (k : Int) ≤ 8 * 8 := Int.mul_le_mul h8 (by omega) (by omega) (by decide)
    omega
set_option maxHeartbeats 4000000 in
set_option maxRecDepth 4000 in
theorem VR_hA (n0 : Int) (x1 x2 x3 : List Nat) (a1 a2 a3 : Option Addr) (c1 c2 c3 : Nat) (w : World) (P1 : Hid (RdF w (.slice a1 x1.length c1) x1)) (P2 : Hid (RdF w (.slice a2 x2.length c2) x2)) (P3 : Hid (RdF w (.slice a3 x3.length c3) x3)) (l1 : x1.length ≤ 9223372036854775807) (l2 : x2.length ≤ 9223372036854775807) (l3 : x3.length ≤ 9223372036854775807)
    (hA : ¬ (1 ≤ n0 ∧ n0 ≤ 8)) :
    Calls Tryz.prog 46 #[.agg #[.int .i64 n0, .slice a1 x1.length c1, .slice a2 x2.length c2, .slice a3 x3.length c3]] w fun e w' => e = .returned (.bool (validR ⟨n0, x1, x2, x3⟩)) ∧ Below w.heap.size w w' := by
    have hin := inB_false (lo := 1) (hi := 8) (n := n0) hA
    have HNO := Lib.hid (validR_false (r := ⟨n0, x1, x2, x3⟩) (fun h => hA ⟨h.v1, h.v8⟩))
    clear hA
    go_enter Tryz.func46, Tryz.ntmps46
    go_wp2_with fail
    refine wp_at fun W hW => ?_
    have HB := Lib.hid (show Below w.heap.size w W by subst hW; (repeat' first | exact Below.refl _ _ | assumption | refine Below.alloc ?_ ?_ _ | refine Below.setCell ?_ ?_ _ | refine Below.drew ?_ | (simp; done) | (simp; omega)))
    have HK := Lib.hid (show Blk W w.heap.size 26 #[.int .i64 n0, .slice a1 x1.length c1, .slice a2 x2.length c2, .slice a3 x3.length c3] by subst hW; exact Blk.new _ _ _)
    clear hW
    have d0 : W.cell? ⟨w.heap.size, 0, none⟩ = some (.int .i64 n0) := HK.out.cell 0 rfl
    have d1 : W.cell? ⟨w.heap.size, 1, none⟩ = some (.slice a1 x1.length c1) := HK.out.cell 1 rfl
    have d2 : W.cell? ⟨w.heap.size, 2, none⟩ = some (.slice a2 x2.length c2) := HK.out.cell 2 rfl
    have d3 : W.cell? ⟨w.heap.size, 3, none⟩ = some (.slice a3 x3.length c3) := HK.out.cell 3 rfl
    go_quiet (first
      | (go_at_call 66; exact quiet_same (size_any _ _ (by unfold maxLen; omega)))
      | (go_at_call 115; exact quiet_same (within_any _ _ _ _)))
    go_wp2_with fail
    go_ret
    exact ⟨by rw [HNO.out]; rfl, below_drewN HB.out _⟩
set_option maxHeartbeats 4000000 in
set_option maxRecDepth 4000 in
theorem VR_hB (n0 : Int) (x1 x2 x3 : List Nat) (a1 a2 a3 : Option Addr) (c1 c2 c3 : Nat) (w : World) (P1 : Hid (RdF w (.slice a1 x1.length c1) x1)) (P2 : Hid (RdF w (.slice a2 x2.length c2) x2)) (P3 : Hid (RdF w (.slice a3 x3.length c3) x3)) (l1 : x1.length ≤ 9223372036854775807) (l2 : x2.length ≤ 9223372036854775807) (l3 : x3.length ≤ 9223372036854775807)
    (hA : 1 ≤ n0 ∧ n0 ≤ 8) (hB : ¬ (1 ≤ x2.length ∧ x2.length ≤ 8)) :
    Calls Tryz.prog 46 #[.agg #[.int .i64 n0, .slice a1 x1.length c1, .slice a2 x2.length c2, .slice a3 x3.length c3]] w fun e w' => e = .returned (.bool (validR ⟨n0, x1, x2, x3⟩)) ∧ Below w.heap.size w w' := by
    have hin := inB_true (lo := 1) (hi := 8) (n := n0) hA
    have hin2 := inB_false (lo := 1) (hi := 8) (n := (x2.length : Int)) (by omega)
    have HNO := Lib.hid (validR_false (r := ⟨n0, x1, x2, x3⟩) (fun h => hB ⟨h.b1, h.b8⟩))
    clear hA hB
    go_enter Tryz.func46, Tryz.ntmps46
    go_wp2_with fail
    refine wp_at fun W hW => ?_
    have HB := Lib.hid (show Below w.heap.size w W by subst hW; (repeat' first | exact Below.refl _ _ | assumption | refine Below.alloc ?_ ?_ _ | refine Below.setCell ?_ ?_ _ | refine Below.drew ?_ | (simp; done) | (simp; omega)))
    have HK := Lib.hid (show Blk W w.heap.size 26 #[.int .i64 n0, .slice a1 x1.length c1, .slice a2 x2.length c2, .slice a3 x3.length c3] by subst hW; exact Blk.new _ _ _)
    clear hW
    have d0 : W.cell? ⟨w.heap.size, 0, none⟩ = some (.int .i64 n0) := HK.out.cell 0 rfl
    have d1 : W.cell? ⟨w.heap.size, 1, none⟩ = some (.slice a1 x1.length c1) := HK.out.cell 1 rfl
    have d2 : W.cell? ⟨w.heap.size, 2, none⟩ = some (.slice a2 x2.length c2) := HK.out.cell 2 rfl
    have d3 : W.cell? ⟨w.heap.size, 3, none⟩ = some (.slice a3 x3.length c3) := HK.out.cell 3 rfl
    go_quiet (first
      | (go_at_call 66; exact quiet_same (size_any _ _ (by unfold maxLen; omega)))
      | (go_at_call 115; exact quiet_same (within_any _ _ _ _)))
    go_wp2_with fail
    go_ret
    exact ⟨by rw [HNO.out]; rfl, below_drewN HB.out _⟩
set_option maxHeartbeats 4000000 in
set_option maxRecDepth 4000 in
theorem VR_hC (n0 : Int) (x1 x2 x3 : List Nat) (a1 a2 a3 : Option Addr) (c1 c2 c3 : Nat) (w : World) (P1 : Hid (RdF w (.slice a1 x1.length c1) x1)) (P2 : Hid (RdF w (.slice a2 x2.length c2) x2)) (P3 : Hid (RdF w (.slice a3 x3.length c3) x3)) (l1 : x1.length ≤ 9223372036854775807) (l2 : x2.length ≤ 9223372036854775807) (l3 : x3.length ≤ 9223372036854775807)
    (hA : 1 ≤ n0 ∧ n0 ≤ 8) (hB : 1 ≤ x2.length ∧ x2.length ≤ 8) (hC : ¬ ((x3.length : Int) = n0)) :
    Calls Tryz.prog 46 #[.agg #[.int .i64 n0, .slice a1 x1.length c1, .slice a2 x2.length c2, .slice a3 x3.length c3]] w fun e w' => e = .returned (.bool (validR ⟨n0, x1, x2, x3⟩)) ∧ Below w.heap.size w w' := by
    have hin := inB_true (lo := 1) (hi := 8) (n := n0) hA
    have hin2 := inB_true (lo := 1) (hi := 8) (n := (x2.length : Int)) (by omega)
    have hcb : ((x3.length : Int) != n0) = true := by simp [hC]
    have HNO := Lib.hid (validR_false (r := ⟨n0, x1, x2, x3⟩) (fun h => hC h.gl))
    clear hA hC
    go_enter Tryz.func46, Tryz.ntmps46
    go_wp2_with fail
    refine wp_at fun W hW => ?_
    have HB := Lib.hid (show Below w.heap.size w W by subst hW; (repeat' first | exact Below.refl _ _ | assumption | refine Below.alloc ?_ ?_ _ | refine Below.setCell ?_ ?_ _ | refine Below.drew ?_ | (simp; done) | (simp; omega)))
    have HK := Lib.hid (show Blk W w.heap.size 26 #[.int .i64 n0, .slice a1 x1.length c1, .slice a2 x2.length c2, .slice a3 x3.length c3] by subst hW; exact Blk.new _ _ _)
    clear hW
    have d0 : W.cell? ⟨w.heap.size, 0, none⟩ = some (.int .i64 n0) := HK.out.cell 0 rfl
    have d1 : W.cell? ⟨w.heap.size, 1, none⟩ = some (.slice a1 x1.length c1) := HK.out.cell 1 rfl
    have d2 : W.cell? ⟨w.heap.size, 2, none⟩ = some (.slice a2 x2.length c2) := HK.out.cell 2 rfl
    have d3 : W.cell? ⟨w.heap.size, 3, none⟩ = some (.slice a3 x3.length c3) := HK.out.cell 3 rfl
    go_quiet (first
      | (go_at_call 66; exact quiet_same (size_any _ _ (by unfold maxLen; omega)))
      | (go_at_call 115; exact quiet_same (within_any _ _ _ _)))
    go_wp2_with fail
    go_ret
    exact ⟨by rw [HNO.out]; rfl, below_drewN HB.out _⟩
set_option maxHeartbeats 4000000 in
set_option maxRecDepth 4000 in
theorem VR_hD (n0 : Int) (x1 x2 x3 : List Nat) (a1 a2 a3 : Option Addr) (c1 c2 c3 : Nat) (w : World) (P1 : Hid (RdF w (.slice a1 x1.length c1) x1)) (P2 : Hid (RdF w (.slice a2 x2.length c2) x2)) (P3 : Hid (RdF w (.slice a3 x3.length c3) x3)) (l1 : x1.length ≤ 9223372036854775807) (l2 : x2.length ≤ 9223372036854775807) (l3 : x3.length ≤ 9223372036854775807)
    (hA : 1 ≤ n0 ∧ n0 ≤ 8) (hB : 1 ≤ x2.length ∧ x2.length ≤ 8) (hC : (x3.length : Int) = n0) (hD : ¬ ((x1.length : Int) = n0 * x2.length)) :
    Calls Tryz.prog 46 #[.agg #[.int .i64 n0, .slice a1 x1.length c1, .slice a2 x2.length c2, .slice a3 x3.length c3]] w fun e w' => e = .returned (.bool (validR ⟨n0, x1, x2, x3⟩)) ∧ Below w.heap.size w w' := by
    have hin := inB_true (lo := 1) (hi := 8) (n := n0) hA
    have hin2 := inB_true (lo := 1) (hi := 8) (n := (x2.length : Int)) (by omega)
    have hcb : ((x3.length : Int) != n0) = false := by simp [hC]
    obtain ⟨M, hM⟩ : ∃ M : Int, M = n0 * x2.length := ⟨_, rfl⟩
    have hM0 : 0 ≤ M ∧ M ≤ 64 := by have := mulR hA.1 hA.2 hB.2; omega
    have hmul : IntKind.i64.wrap (n0 * (x2.length : Int)) = M := by rw [IntWalk.i64_in _ (by omega), hM]
    have hdb : ((x1.length : Int) != M) = true := by rw [hM]; simp [hD]
    have HM := Lib.hid hM
    clear hM
    have HNO := Lib.hid (validR_false (r := ⟨n0, x1, x2, x3⟩) (fun h => hD h.nl))
    clear hA hC hD
    go_enter Tryz.func46, Tryz.ntmps46
    go_wp2_with fail
    refine wp_at fun W hW => ?_
    have HB := Lib.hid (show Below w.heap.size w W by subst hW; (repeat' first | exact Below.refl _ _ | assumption | refine Below.alloc ?_ ?_ _ | refine Below.setCell ?_ ?_ _ | refine Below.drew ?_ | (simp; done) | (simp; omega)))
    have HK := Lib.hid (show Blk W w.heap.size 26 #[.int .i64 n0, .slice a1 x1.length c1, .slice a2 x2.length c2, .slice a3 x3.length c3] by subst hW; exact Blk.new _ _ _)
    clear hW
    have d0 : W.cell? ⟨w.heap.size, 0, none⟩ = some (.int .i64 n0) := HK.out.cell 0 rfl
    have d1 : W.cell? ⟨w.heap.size, 1, none⟩ = some (.slice a1 x1.length c1) := HK.out.cell 1 rfl
    have d2 : W.cell? ⟨w.heap.size, 2, none⟩ = some (.slice a2 x2.length c2) := HK.out.cell 2 rfl
    have d3 : W.cell? ⟨w.heap.size, 3, none⟩ = some (.slice a3 x3.length c3) := HK.out.cell 3 rfl
    go_quiet (first
      | (go_at_call 66; exact quiet_same (size_any _ _ (by unfold maxLen; omega)))
      | (go_at_call 115; exact quiet_same (within_any _ _ _ _)))
    go_wp2_with fail
    go_ret
    exact ⟨by rw [HNO.out]; rfl, below_drewN HB.out _⟩
set_option maxHeartbeats 4000000 in
set_option maxRecDepth 4000 in
theorem VR_yes (n0 : Int) (x1 x2 x3 : List Nat) (a1 a2 a3 : Option Addr) (c1 c2 c3 : Nat) (w : World) (P1 : Hid (RdF w (.slice a1 x1.length c1) x1)) (P2 : Hid (RdF w (.slice a2 x2.length c2) x2)) (P3 : Hid (RdF w (.slice a3 x3.length c3) x3)) (l1 : x1.length ≤ 9223372036854775807) (l2 : x2.length ≤ 9223372036854775807) (l3 : x3.length ≤ 9223372036854775807)
    (hA : 1 ≤ n0 ∧ n0 ≤ 8) (hB : 1 ≤ x2.length ∧ x2.length ≤ 8) (hC : (x3.length : Int) = n0) (hD : (x1.length : Int) = n0 * x2.length)  :
    Calls Tryz.prog 46 #[.agg #[.int .i64 n0, .slice a1 x1.length c1, .slice a2 x2.length c2, .slice a3 x3.length c3]] w fun e w' => e = .returned (.bool (validR ⟨n0, x1, x2, x3⟩)) ∧ Below w.heap.size w w' := by
  have hin := inB_true (lo := 1) (hi := 8) (n := n0) hA
  have hin2 := inB_true (lo := 1) (hi := 8) (n := (x2.length : Int)) (by omega)
  have hcb : ((x3.length : Int) != n0) = false := by simp [hC]
  obtain ⟨M, hM⟩ : ∃ M : Int, M = n0 * x2.length := ⟨_, rfl⟩
  have hM0 : 0 ≤ M ∧ M ≤ 64 := by have := mulR hA.1 hA.2 hB.2; omega
  have hmul : IntKind.i64.wrap (n0 * (x2.length : Int)) = M := by rw [IntWalk.i64_in _ (by omega), hM]
  have hdb : ((x1.length : Int) != M) = false := by rw [hM]; simp [hD]
  have HM := Lib.hid hM
  clear hM
  have HC := Lib.hid hC
  have HD := Lib.hid hD
  have HA := Lib.hid hA
  have HBB := Lib.hid hB
  clear hA hC hD
  go_enter Tryz.func46, Tryz.ntmps46
  go_wp2_with fail
  refine wp_at fun W hW => ?_
  have HB := Lib.hid (show Below w.heap.size w W by subst hW; (repeat' first | exact Below.refl _ _ | assumption | refine Below.alloc ?_ ?_ _ | refine Below.setCell ?_ ?_ _ | refine Below.drew ?_ | (simp; done) | (simp; omega)))
  have HK := Lib.hid (show Blk W w.heap.size 26 #[.int .i64 n0, .slice a1 x1.length c1, .slice a2 x2.length c2, .slice a3 x3.length c3] by subst hW; exact Blk.new _ _ _)
  clear hW
  have d0 : W.cell? ⟨w.heap.size, 0, none⟩ = some (.int .i64 n0) := HK.out.cell 0 rfl
  have d1 : W.cell? ⟨w.heap.size, 1, none⟩ = some (.slice a1 x1.length c1) := HK.out.cell 1 rfl
  have d2 : W.cell? ⟨w.heap.size, 2, none⟩ = some (.slice a2 x2.length c2) := HK.out.cell 2 rfl
  have d3 : W.cell? ⟨w.heap.size, 3, none⟩ = some (.slice a3 x3.length c3) := HK.out.cell 3 rfl
  go_quiet (first
    | (go_at_call 66; exact quiet_same (size_any _ _ (by unfold maxLen; omega)))
    | (go_at_call 115; exact quiet_same (within_any _ _ _ _)))
  obtain ⟨W2, hW2⟩ : ∃ W2, W2 = W.drewN nq := ⟨_, rfl⟩
  rw [← hW2]
  have HB2 := Lib.hid (show Below w.heap.size w W2 by subst hW2; exact below_drewN HB.out _)
  have HK2 := Lib.hid (show Blk W2 w.heap.size 26 #[.int .i64 n0, .slice a1 x1.length c1, .slice a2 x2.length c2, .slice a3 x3.length c3] by subst hW2; exact HK.out)
  clear hW2 d0 d1 d2 d3
  have d2 : W2.cell? ⟨w.heap.size, 2, none⟩ = some (.slice a2 x2.length c2) := HK2.out.cell 2 rfl
  go_wp2_with fail
  go_loopw [43] (fun i wr => ∃ k : Nat, i = .int .i64 k ∧ k ≤ x2.length ∧ Hid (∀ j, j < k → (FloatKind.f32.format.order (x2.getD j 0) 0 == some .lt) = false) ∧ wr = W2) (fun i _ => x2.length - (intOf i).toNat)
  case atStart => exact ⟨0, rfl, Nat.zero_le _, fun j hj => by omega, rfl⟩
  case round =>
    obtain ⟨k, rfl, hk, hall, rfl⟩ := hrel
    by_cases hlt : k < x2.length
    · obtain ⟨b, off, rfl, _, hc⟩ := (P2.out.up HB2.out (Nat.le_refl _)).at hlt
      obtain ⟨x, hx⟩ : ∃ x, x = x2.getD k 0 := ⟨_, rfl⟩
      rw [← hx] at hc
      have HX := Lib.hid hx
      clear hx
      by_cases hq : (FloatKind.f32.format.order x 0 == some .lt) = true
      · have HNO := Lib.hid (validR_false (r := ⟨n0, x1, x2, x3⟩) (fun h => by
          have h1 := lt_of_least (h.lb k hlt)
          simp only at h1
          rw [← HX.out, hq] at h1
          cases h1))
        go_wp2_with fail
        go_ret
        exact ⟨by rw [HNO.out]; rfl, HB2.out⟩
      · rw [Bool.not_eq_true] at hq
        go_wp2_with fail
        go_roundw
        case rel => exact ⟨k + 1, by go_num, by omega, fun j hj => by
          rcases Nat.lt_succ_iff_lt_or_eq.1 hj with h | rfl
          · exact hall.out j h
          · rw [← HX.out]; exact hq, by first | trivial | rfl⟩
        case measure => simp [intOf]; omega
    · obtain rfl : k = x2.length := by omega
      go_wp2_with fail
      refine (areFinite_any _ x2 _ (P2.out.up HB2.out (Nat.le_refl _))).mono ?_
      rintro e w1 ⟨rfl, hd1⟩
      have HB3 := Lib.hid (show Below w.heap.size w w1 by obtain ⟨m, rfl⟩ := hd1; exact below_drewN HB2.out _)
      have HK3 := Lib.hid (show Blk w1 w.heap.size 26 #[.int .i64 n0, .slice a1 x1.length c1, .slice a2 x2.length c2, .slice a3 x3.length c3] by obtain ⟨m, rfl⟩ := hd1; exact HK2.out)
      clear hd1
      by_cases hf2 : allFin x2 = true
      case neg =>
        rw [Bool.not_eq_true] at hf2
        have HNO := Lib.hid (validR_false (r := ⟨n0, x1, x2, x3⟩) (fun h => by
          have : allFin x2 = true := allFin_yes fun i hi => least_fin (h.lb i hi)
          rw [hf2] at this; cases this))
        rw [hf2]
        go_wp2_with fail
        go_ret
        exact ⟨by rw [HNO.out]; rfl, HB3.out⟩
      rw [hf2]
      have HF2 := Lib.hid hf2
      clear hf2
      have d3 : w1.cell? ⟨w.heap.size, 3, none⟩ = some (.slice a3 x3.length c3) := HK3.out.cell 3 rfl
      go_wp2_with fail
      refine (areFinite_any _ x3 _ (P3.out.up HB3.out (Nat.le_refl _))).mono ?_
      rintro e w2 ⟨rfl, hd1⟩
      have HB4 := Lib.hid (show Below w.heap.size w w2 by obtain ⟨m, rfl⟩ := hd1; exact below_drewN HB3.out _)
      have HK4 := Lib.hid (show Blk w2 w.heap.size 26 #[.int .i64 n0, .slice a1 x1.length c1, .slice a2 x2.length c2, .slice a3 x3.length c3] by obtain ⟨m, rfl⟩ := hd1; exact HK3.out)
      clear hd1 d3
      by_cases hf3 : allFin x3 = true
      case neg =>
        rw [Bool.not_eq_true] at hf3
        have HNO := Lib.hid (validR_false (r := ⟨n0, x1, x2, x3⟩) (fun h => by
          have := h.fg
          simp only at this
          rw [hf3] at this; cases this))
        rw [hf3]
        go_wp2_with fail
        go_ret
        exact ⟨by rw [HNO.out]; rfl, HB4.out⟩
      rw [hf3]
      have HF3 := Lib.hid hf3
      clear hf3
      have d1 : w2.cell? ⟨w.heap.size, 1, none⟩ = some (.slice a1 x1.length c1) := HK4.out.cell 1 rfl
      go_wp2_with fail
      refine (areFinite_any _ x1 _ (P1.out.up HB4.out (Nat.le_refl _))).mono ?_
      rintro e w3 ⟨rfl, hd1⟩
      have HB5 := Lib.hid (show Below w.heap.size w w3 by obtain ⟨m, rfl⟩ := hd1; exact below_drewN HB4.out _)
      clear hd1 d1
      have HV : Hid (validR ⟨n0, x1, x2, x3⟩ = allFin x1) := by
        show validR _ = allFin x1
        by_cases hf1 : allFin x1 = true
        · rw [hf1]
          exact validR_true ⟨HA.out.1, HA.out.2, HBB.out.1, HBB.out.2, HC.out, HD.out, hf1, HF3.out, fun i hi => least_of (allFin_get HF2.out hi) (hall.out i hi)⟩
        · rw [Bool.not_eq_true] at hf1
          rw [hf1]
          exact validR_false (fun h => by have := h.fn; simp only at this; rw [hf1] at this; cases this)
      go_wp2_with fail
      go_ret
      exact ⟨by rw [HV.out]; rfl, HB5.out⟩
set_option maxHeartbeats 4000000 in
set_option maxRecDepth 4000 in
theorem ValidRows_any (v : Value) (r : RowsD) (w : World) (h : RdR w v r) :
    Calls Tryz.prog 46 #[v] w fun e w' => e = .returned (.bool (validR r)) ∧ Below w.heap.size w w' := by
  obtain ⟨a1, c1, a2, c2, a3, c3, rfl⟩ := h.shape
  obtain ⟨p1, p2, p3⟩ := h.parts
  obtain ⟨n0, x1, x2, x3⟩ := r
  simp only at p1 p2 p3 ⊢
  have l1 := p1.len
  have l2 := p2.len
  have l3 := p3.len
  unfold maxLen at l1 l2 l3
  have P1 := Lib.hid p1
  have P2 := Lib.hid p2
  have P3 := Lib.hid p3
  clear h p1 p2 p3
  by_cases hA : 1 ≤ n0 ∧ n0 ≤ 8
  case neg => exact VR_hA n0 x1 x2 x3 a1 a2 a3 c1 c2 c3 w P1 P2 P3 (by omega) (by omega) (by omega) hA
  by_cases hB : 1 ≤ x2.length ∧ x2.length ≤ 8
  case neg => exact VR_hB n0 x1 x2 x3 a1 a2 a3 c1 c2 c3 w P1 P2 P3 (by omega) (by omega) (by omega) hA hB
  by_cases hC : (x3.length : Int) = n0
  case neg => exact VR_hC n0 x1 x2 x3 a1 a2 a3 c1 c2 c3 w P1 P2 P3 (by omega) (by omega) (by omega) hA hB hC
  by_cases hD : (x1.length : Int) = n0 * x2.length
  case neg => exact VR_hD n0 x1 x2 x3 a1 a2 a3 c1 c2 c3 w P1 P2 P3 (by omega) (by omega) (by omega) hA hB hC hD
  exact VR_yes n0 x1 x2 x3 a1 a2 a3 c1 c2 c3 w P1 P2 P3 (by omega) (by omega) (by omega) hA hB hC hD
end Go.Proofs.YtgkbbpajkbkgnaaGreatDoor

namespace Go.Proofs.YtgkbbpajkbkgnaaGreatDoor
open Go.RowKit
def Cels (w : World) (b : Nat) (cs : Array Value) : Prop := ∀ (j : Nat) (u : Value), cs[j]? = some u → w.cell? ⟨b, j, none⟩ = some u
theorem Cels.cell {w : World} {b : Nat} {cs : Array Value} (h : Cels w b cs) (j : Nat) {u : Value} (hj : cs[j]? = some u) : w.cell? ⟨b, j, none⟩ = some u := h j u hj
def PreB (w : World) (b : Nat) (cs : Array Value) : Prop := b < w.heap.size ∧ Cels w b cs
theorem PreB.cell {w : World} {b : Nat} {cs : Array Value} (h : PreB w b cs) (j : Nat) {u : Value} (hj : cs[j]? = some u) : w.cell? ⟨b, j, none⟩ = some u := h.2 j u hj
theorem PreB.lt {w : World} {b : Nat} {cs : Array Value} (h : PreB w b cs) : b < w.heap.size := h.1
theorem PreB.below {w w' : World} {b B : Nat} {cs : Array Value} (h : PreB w b cs) (hb : Below B w w') (hB : b < B) : PreB w' b cs :=
  ⟨Nat.lt_of_lt_of_le h.1 hb.size, fun j u hj => (hb.cell (p := ⟨b, j, none⟩) hB).trans (h.2 j u hj)⟩
theorem PreB.kept {S : Nat → Prop} {w w' : World} {b : Nat} {cs : Array Value} (h : PreB w b cs) (hk : Kept S w w') (hs : ¬ S b) : PreB w' b cs :=
  ⟨Nat.lt_of_lt_of_le h.1 hk.size, fun j u hj => (hk.cell (p := ⟨b, j, none⟩) h.1 hs).trans (h.2 j u hj)⟩
theorem PreB.alloc {w : World} {b : Nat} {cs : Array Value} (h : PreB w b cs) (o : Obj) : PreB (w.alloc o) b cs := h.kept ((Kept.refl (fun _ => False) _).alloc o) (fun x => x)
theorem Blk.pre {w : World} {b : Nat} {t : TypeId} {cs : Array Value} (h : Blk w b t cs) : PreB w b cs := ⟨h.lt, fun j _ hj => h.cell j hj⟩
end Go.Proofs.YtgkbbpajkbkgnaaGreatDoor

namespace Go.Proofs.YtgkbbpajkbkgnaaGreatDoor
open Go.RowKit
end Go.Proofs.YtgkbbpajkbkgnaaGreatDoor

namespace Go.Proofs.YtgkbbpajkbkgnaaGreatDoor
open Go.RowKit
theorem wp_app_ints {w : World} {o : Oper} {a : Act} {K : Act → World → Prop} {Q : Exit → Act → World → Prop} (s x : Operand)
    (ho : o.op = .call { callee := .builtin .append, args := #[s, x], argTypes := #[27, 27] })
    (base : Nat) (v : Value) (n : Nat) (xs : List Int) (hs : a.eval s = v) (hown : w.ownsRow base 2 1 v n (xs.map I64))
    (sv : Value) (news : List Int) (hx : a.eval x = sv) (hsv : Slc w sv (news.map I64)) (m : Nat) (ys : List Int) (hm : m = n + news.length) (hys : ys = xs ++ news) (hlen : m ≤ 17592186044416) (hbase : base ≤ w.heap.size)
    (h : ∀ a' cap' w', w'.ownsRow base 2 1 (.slice a' m cap') m (ys.map I64) → Below base w w' → w.grownBy w' v.ownBlock → (Value.slice a' m cap' = .slice none 0 0 ↔ v = .slice none 0 0 ∧ news = []) → K (a.put o.dst (.slice a' m cap')) w') :
    o.wp Tryz.prog a w K Q := by
  obtain ⟨i0, hi, hz0, hz1, hz2⟩ := info_parts Tryz.infoI64
  subst hm hys
  have hk : ∀ v' w', w'.ownsRow base 2 1 v' (n + news.length) (xs.map I64 ++ news.map I64) → w.grownBy w' v.ownBlock → (v' = .slice none 0 0 ↔ v = .slice none 0 0 ∧ news = []) → K (a.put o.dst v') w' := by
    intro v' w' h1 h2 h3
    have h1' : w'.ownsRow base 2 1 v' (n + news.length) ((xs ++ news).map I64) := by simpa using h1
    obtain ⟨a', cap', rfl⟩ := owns_shape h1'
    exact h a' cap' w' h1' (below_grown hown hbase h2) h2 h3
  rcases hsv with ⟨rfl, hnil⟩ | ⟨ad, cap, rfl, hcl, hcm, hc⟩
  · have hn : news = [] := by simpa using hnil
    subst hn
    have hrun := run_append_owned_none (P := Tryz.prog) (w := w) base 27 o.type 2 i0 1 Tryz.underlying27 hi v n (xs.map I64) hown
    unfold Oper.wp
    simp [execOp, ho, resolve, invoke, builtin, hs, hx, hrun, Result.andThen]
    exact hk v w (by simpa using hown) (World.grownBy.refl _ _) (by simp)
  · refine wp_append_own w s x 27 ho base 2 i0 (.int .i64 0) 1 8 Tryz.underlying27 hi hz0 hz1 hz2 rfl (by decide) v n (xs.map I64) hs hown ad (news.map I64).length cap (news.map I64) hx (by simp) hc (i64_one news) (by simp [maxLen]; omega) (by simp; omega) hbase ?_
    intro v' w' h2 h3 h4
    exact hk v' w' (by simpa using h2) h3 (by rw [h4]; simp)
theorem step_app_own {w : World} {ops : Array Oper} {o : Oper} {a : Act} {K : Act → World → Prop} {Q : Exit → Act → World → Prop} {E : Prop} (hgd : o.guard = none) (s x : Operand)
    (ho : o.op = .call { callee := .builtin .append, args := #[s, x], argTypes := #[27, 27] })
    (base : Nat) (ad : Addr) (n cap : Nat) (xs : List Int) (hs : a.eval s = .slice (some ad) n cap) (hown : w.ownsRow base 2 1 (.slice (some ad) n cap) n (xs.map I64))
    (sv : Value) (news : List Int) (hx : a.eval x = sv) (hsv : Slc w sv (news.map I64)) (m : Nat) (ys : List Int) (hm : m = n + news.length) (hys : ys = xs ++ news) (hlen : m ≤ 17592186044416) (hbase : base ≤ w.heap.size)
    (h : ∀ g cap' w', w'.ownsRow base 2 1 (.slice (some ⟨g, 0, none⟩) m cap') m (ys.map I64) → Below base w w' → w.grownBy w' (Value.slice (some ad) n cap).ownBlock → K (a.put o.dst (.slice (some ⟨g, 0, none⟩) m cap')) w') :
    if Region.wanted o (yielded ops a.tmps) = true then Oper.wp Tryz.prog o a w K Q else E := by
  have hw : Region.wanted o (yielded ops a.tmps) = true := by simp [Region.wanted, hgd]
  rw [if_pos hw]
  refine wp_app_ints s x ho base _ n xs hs hown sv news hx hsv m ys hm hys hlen hbase ?_
  intro a' cap' w' h1 h2 h3 h4
  obtain ⟨g, c, e, _⟩ := owns_some h1 (by intro e; have := h4.1 e; simp at this)
  simp only [Value.slice.injEq, true_and] at e
  obtain ⟨rfl, rfl⟩ := e
  exact h g _ w' h1 h2 h3
theorem slc_keptB {S : Nat → Prop} {w w' : World} {ad : Addr} {n cap : Nat} {vs : List Value} (h : Slc w (.slice (some ad) n cap) vs) (hk : Kept S w w') (hs : ¬ S ad.block) : Slc w' (.slice (some ad) n cap) vs := by
  rcases h with ⟨e1, _⟩ | ⟨ad2, cap2, e1, h1, h2, hc⟩
  · simp at e1
  · simp only [Value.slice.injEq, Option.some.injEq] at e1
    obtain ⟨rfl, rfl, rfl⟩ := e1
    refine .inr ⟨ad, cap, rfl, h1, h2, fun i u hi => ?_⟩
    have h0 := hc i u hi
    rw [hk.cell (cell_lt h0) (by rw [addr_add_block]; exact hs)]
    exact h0
theorem slc_grown {w w' : World} {ad : Addr} {n cap : Nat} {vs : List Value} {row : Option Nat} (h : Slc w (.slice (some ad) n cap) vs) (hg : w.grownBy w' row) (hne : row ≠ some ad.block) : Slc w' (.slice (some ad) n cap) vs :=
  slc_keptB (S := fun k => row = some k) h ⟨hg.os, hg.tape, hg.output, hg.size, fun k hk hn => hg.block k hk fun e => hn e.symm⟩ hne
theorem slc_drew {w : World} {v : Value} {vs : List Value} (h : Slc w v vs) : Slc w.drew v vs := h
theorem slc_alloc {w : World} {v : Value} {vs : List Value} (h : Slc w v vs) (o : Obj) : Slc (w.alloc o) v vs := h.below ((Below.refl _ _).alloc (Nat.le_refl _) _) (Nat.le_refl _)
theorem slc_oneB (w : World) (z : Int) (b : Nat) (hb : b = w.heap.size) : Slc (w.alloc (.cells #[.int .i64 z] 2)) (.slice (some ⟨b, 0, none⟩) 1 1) ([z].map I64) := by subst hb; exact slc_one w z
theorem owns_emptyB (w : World) (b : Nat) (hb : b = w.heap.size) : (w.alloc (.cells #[] 2)).ownsRow w.heap.size 2 1 (.slice (some ⟨b, 0, none⟩) 0 0) 0 (([] : List Int).map I64) := by subst hb; exact owns_empty w
theorem owns_drew {w : World} {base : Nat} {e : TypeId} {v : Value} {n : Nat} {vs : List Value} (h : w.ownsRow base e 1 v n vs) : w.drew.ownsRow base e 1 v n vs := h
end Go.Proofs.YtgkbbpajkbkgnaaGreatDoor

namespace Go.Proofs.YtgkbbpajkbkgnaaGreatDoor
open Go.RowKit
theorem wp_app_intsL {w : World} {o : Oper} {a : Act} {K : Act → World → Prop} {Q : Exit → Act → World → Prop} (s x : Operand)
    (ho : o.op = .call { callee := .builtin .append, args := #[s, x], argTypes := #[27, 27] })
    (base : Nat) (v : Value) (n : Nat) (xs : List Int) (hs : a.eval s = v) (hown : w.ownsRow base 2 1 v n (xs.map I64))
    (sv : Value) (news : List Int) (hx : a.eval x = sv) (hsv : Slc w sv (news.map I64)) (m : Nat) (ys : List Int) (hm : m = n + news.length) (hys : ys = xs ++ news) (hlen : m ≤ 17592186044416) (hbase : base ≤ w.heap.size)
    (h : ∀ a' cap' w', w'.ownsRow base 2 1 (.slice a' m cap') m (ys.map I64) → Below base w w' → w.grownBy w' v.ownBlock → ((Value.slice a' m cap').ownBlock = v.ownBlock ∨ (Value.slice a' m cap').ownBlock = some w.heap.size) → K (a.put o.dst (.slice a' m cap')) w') :
    o.wp Tryz.prog a w K Q := by
  obtain ⟨i0, hi, hz0, hz1, hz2⟩ := info_parts Tryz.infoI64
  subst hm hys
  have hk : ∀ v' w', w'.ownsRow base 2 1 v' (n + news.length) (xs.map I64 ++ news.map I64) → w.grownBy w' v.ownBlock → (v'.ownBlock = v.ownBlock ∨ v'.ownBlock = some w.heap.size) → K (a.put o.dst v') w' := by
    intro v' w' h1 h2 h3
    have h1' : w'.ownsRow base 2 1 v' (n + news.length) ((xs ++ news).map I64) := by simpa using h1
    obtain ⟨a', cap', rfl⟩ := owns_shape h1'
    exact h a' cap' w' h1' (below_grown hown hbase h2) h2 h3
  rcases hsv with ⟨rfl, hnil⟩ | ⟨ad, cap, rfl, hcl, hcm, hc⟩
  · have hn : news = [] := by simpa using hnil
    subst hn
    have hrun := run_append_owned_none (P := Tryz.prog) (w := w) base 27 o.type 2 i0 1 Tryz.underlying27 hi v n (xs.map I64) hown
    unfold Oper.wp
    simp [execOp, ho, resolve, invoke, builtin, hs, hx, hrun, Result.andThen]
    exact hk v w (by simpa using hown) (World.grownBy.refl _ _) (.inl rfl)
  · obtain ⟨v', w', hr, h2, h3, _, h5⟩ := run_append_own_at (P := Tryz.prog) w base 27 o.type 2 i0 (.int .i64 0) 1 8 Tryz.underlying27 hi hz0 hz1 hz2 rfl (by decide) v n (xs.map I64) hown ad (news.map I64).length cap (news.map I64) (by simp) hc (i64_one news) (by simp [maxLen]; omega) (by simp; omega) hbase
    unfold Oper.wp execOp
    simp only [ho, resolve, invoke, builtin, Sem.run_bind, Sem.run_pure, Result.andThen_ok, List.map_toArray, List.map_cons, List.map_nil, hs, hx, hr]
    exact hk _ _ (by simpa using h2) h3 h5
theorem app_intsL {w : World} {ops : Array Oper} {rest : List Oper} {o : Oper} {a : Act} {Q : Exit → Act → World → Prop} (hgd : o.guard = none) (s x : Operand)
    (ho : o.op = .call { callee := .builtin .append, args := #[s, x], argTypes := #[27, 27] })
    (base : Nat) (v : Value) (n : Nat) (xs : List Int) (hs : a.eval s = v) (hown : w.ownsRow base 2 1 v n (xs.map I64))
    (sv : Value) (news : List Int) (hx : a.eval x = sv) (hsv : Slc w sv (news.map I64)) (m : Nat) (ys : List Int) (hm : m = n + news.length) (hys : ys = xs ++ news) (hlen : m ≤ 17592186044416) (hbase : base ≤ w.heap.size)
    (h : ∀ a' cap' w', w'.ownsRow base 2 1 (.slice a' m cap') m (ys.map I64) → Below base w w' → w.grownBy w' v.ownBlock → ((Value.slice a' m cap').ownBlock = v.ownBlock ∨ (Value.slice a' m cap').ownBlock = some w.heap.size) → wpList Tryz.prog ops Q rest (a.put o.dst (.slice a' m cap')) w') :
    wpList Tryz.prog ops Q (o :: rest) a w := by
  obtain ⟨i0, hi, hz0, hz1, hz2⟩ := info_parts Tryz.infoI64
  subst hm hys
  have hk : ∀ v' w', w'.ownsRow base 2 1 v' (n + news.length) (xs.map I64 ++ news.map I64) → w.grownBy w' v.ownBlock → (v'.ownBlock = v.ownBlock ∨ v'.ownBlock = some w.heap.size) → wpList Tryz.prog ops Q rest (a.put o.dst v') w' := by
    intro v' w' h1 h2 h3
    have h1' : w'.ownsRow base 2 1 v' (n + news.length) ((xs ++ news).map I64) := by simpa using h1
    obtain ⟨a', cap', rfl⟩ := owns_shape h1'
    exact h a' cap' w' h1' (below_grown hown hbase h2) h2 h3
  rcases hsv with ⟨rfl, hnil⟩ | ⟨ad, cap, rfl, hcl, hcm, hc⟩
  · have hn : news = [] := by simpa using hnil
    subst hn
    refine wpList_append_own_none hgd s x 27 ho base 2 i0 1 Tryz.underlying27 hi v n (xs.map I64) hs hown hx ?_
    exact hk v w (by simpa using hown) (World.grownBy.refl _ _) (.inl rfl)
  · refine wpList_append_own_at w hgd s x 27 ho base 2 i0 (.int .i64 0) 1 8 Tryz.underlying27 hi hz0 hz1 hz2 rfl (by decide) v n (xs.map I64) hs hown ad (news.map I64).length cap (news.map I64) hx (by simp) hc (i64_one news) (by simp [maxLen]; omega) (by simp; omega) hbase ?_
    intro v' w' h2 h3 _ h5
    exact hk v' w' (by simpa using h2) h3 h5
theorem step_app_intsL {w : World} {ops : Array Oper} {o : Oper} {a : Act} {K : Act → World → Prop} {Q : Exit → Act → World → Prop} {E : Prop} (hgd : o.guard = none) (s x : Operand)
    (ho : o.op = .call { callee := .builtin .append, args := #[s, x], argTypes := #[27, 27] })
    (base : Nat) (v : Value) (n : Nat) (xs : List Int) (hs : a.eval s = v) (hown : w.ownsRow base 2 1 v n (xs.map I64))
    (sv : Value) (news : List Int) (hx : a.eval x = sv) (hsv : Slc w sv (news.map I64)) (m : Nat) (ys : List Int) (hm : m = n + news.length) (hys : ys = xs ++ news) (hlen : m ≤ 17592186044416) (hbase : base ≤ w.heap.size)
    (h : ∀ a' cap' w', w'.ownsRow base 2 1 (.slice a' m cap') m (ys.map I64) → Below base w w' → w.grownBy w' v.ownBlock → ((Value.slice a' m cap').ownBlock = v.ownBlock ∨ (Value.slice a' m cap').ownBlock = some w.heap.size) → K (a.put o.dst (.slice a' m cap')) w') :
    if Region.wanted o (yielded ops a.tmps) = true then Oper.wp Tryz.prog o a w K Q else E := by
  have hw : Region.wanted o (yielded ops a.tmps) = true := by simp [Region.wanted, hgd]
  rw [if_pos hw]
  exact wp_app_intsL s x ho base v n xs hs hown sv news hx hsv m ys hm hys hlen hbase h
theorem blkI_grown {w w' : World} {b : Nat} {t : TypeId} {cs : Array Value} {row : Option Nat} (h : Blk w b t cs) (hg : w.grownBy w' row) (hne : row ≠ some b) : Blk w' b t cs :=
  (hg.block b h.lt (fun e => hne e.symm)).trans h
theorem OwnI.blk {lo hi : Nat} {w : World} {v : Value} {xs : List Int} (h : OwnI lo hi w v xs) {b : Nat} (hb : v.ownBlock = some b) : lo ≤ b ∧ b < hi := ⟨(owns_lt h.1 hb).1, h.2 b hb⟩
end Go.Proofs.YtgkbbpajkbkgnaaGreatDoor

namespace Go.Proofs.YtgkbbpajkbkgnaaGreatDoor
open Go.RowKit
theorem jnK_size {xs : List Int} (h : Small xs) (k : Nat) : (jnK 44 (wordsN xs) k).size ≤ 19 * xs.length := by
  have h1 := joinBy_size 44 ((wordsN xs).take k) 18 (fun x hx => wordsN_size h x (List.mem_of_mem_take hx))
  have h2 : ((wordsN xs).take k).length ≤ xs.length := by rw [List.length_take, wordsN_len]; omega
  have h3 := Nat.mul_le_mul_left 19 h2
  unfold jnK
  omega
set_option maxHeartbeats 1000000 in
theorem l01Text_any (v : Value) (xs : List Int) (w : World) (h : RdI w v xs) (hs : Small xs) (hl : xs.length ≤ 1000000) :
    Calls Tryz.prog 138 #[v] w fun e w' => e = .returned (.string (listT xs)) ∧ Below w.heap.size w w' := by
  obtain ⟨a, c, rfl⟩ := h.shape
  have HR := Lib.hid h
  have HS := Lib.hid hs
  clear h hs
  by_cases h0 : xs.length = 0
  · have hd : ((xs.length : Int) == 0) = true := by simp [h0]
    have he := Lib.hid (show listT xs = noneS by unfold listT textS; rw [show (wordsN xs).isEmpty = true by rw [List.isEmpty_iff]; exact List.length_eq_zero_iff.1 (by rw [wordsN_len]; exact h0)]; rfl)
    clear h0
    go_enter Tryz.func138, Tryz.ntmps138
    go_wp2_with fail
    go_ret
    exact ⟨by rw [he.out]; rfl, Below.refl _ _⟩
  have hpos : 0 < xs.length := Nat.pos_of_ne_zero h0
  have hd : ((xs.length : Int) == 0) = false := by rw [beq_eq_false_iff_ne]; omega
  have hposI : (0 : Int) < xs.length := by omega
  clear h0
  have HLT := Lib.hid (show listT xs = jnK 44 (wordsN xs) xs.length by
    have := jnK_all 44 (wordsN xs)
    rw [wordsN_len] at this
    rw [this]
    unfold listT textS
    rw [if_neg (by rw [List.isEmpty_iff]; intro e; have := congrArg List.length e; rw [wordsN_len, List.length_nil] at this; omega)])
  obtain ⟨xb, xo, rfl, _, hx⟩ := HR.out.at (i := 0) hpos
  have hsm := HS.out 0 hpos
  have H1 := Lib.hid (show jnK 44 (wordsN xs) 1 = decS (xs.getD 0 0).toNat by rw [jnK_one _ _ (by rw [wordsN_len]; exact hpos), wordsN_at xs 0 hpos])
  obtain ⟨x, hxe⟩ : ∃ x, x = xs.getD 0 0 := ⟨_, rfl⟩
  rw [← hxe] at hx hsm H1
  clear hxe
  obtain ⟨n, rfl⟩ : ∃ n : Nat, x = (n : Int) := ⟨x.toNat, by omega⟩
  rw [Nat.add_zero] at hx
  have HD := Lib.hid (l01Dec_any n (by omega))
  have H2 := Lib.hid (show jnK 44 (wordsN xs) 1 = decS n from H1.out)
  clear hsm H1
  go_enter Tryz.func138, Tryz.ntmps138
  go_wp2_with (go_at_call 135; refine (HD.out _).mono ?_; rintro e w1 ⟨rfl, hb1⟩)
  have HB1 := Lib.hid hb1
  clear hb1 HD
  rw [← H2.out]
  go_loopw [3, 4] (fun sv iv wr => ∃ k : Nat, iv = .int .i64 k ∧ 1 ≤ k ∧ k ≤ xs.length ∧ sv = .string (jnK 44 (wordsN xs) k) ∧ Hid (Below w.heap.size w wr)) (fun _ iv _ => xs.length + 1 - (intOf iv).toNat)
  case atStart => exact ⟨1, rfl, Nat.le_refl _, hpos, rfl, HB1⟩
  case round =>
    clear HB1
    obtain ⟨k, rfl, hk1, hk, rfl, HB⟩ := hrel
    obtain ⟨wo, rfl⟩ : ∃ wo, wo = wr := ⟨wr, rfl⟩
    have hsz := HB.out.size
    by_cases hlt : k < xs.length
    · have hlt' : (k : Int) < xs.length := by omega
      obtain ⟨xb2, xo2, ee, _, hy⟩ := (HR.out.up HB.out (Nat.le_refl _)).at hlt
      simp only [Option.some.injEq, Addr.mk.injEq, and_true] at ee
      obtain ⟨rfl, rfl⟩ := ee
      have hsm := HS.out k hlt
      have HE := Lib.hid (show jnK 44 (wordsN xs) (k + 1) = jnK 44 (wordsN xs) k ++ B1 44 ++ decS (xs.getD k 0).toNat by rw [jnK_succ 44 (wordsN xs) k (by rw [wordsN_len]; exact hlt) hk1, wordsN_at xs k hlt])
      have hjs := jnK_size HS.out k
      obtain ⟨y, hye⟩ : ∃ y, y = xs.getD k 0 := ⟨_, rfl⟩
      rw [← hye] at hy hsm HE
      clear hye
      obtain ⟨m, rfl⟩ : ∃ m : Nat, y = (m : Int) := ⟨y.toNat, by omega⟩
      obtain ⟨S, hS⟩ : ∃ S, S = jnK 44 (wordsN xs) k := ⟨_, rfl⟩
      rw [← hS] at HE hjs ⊢
      have hds := decS_size (n := m) (by omega)
      have HD := Lib.hid (l01Dec_any m (by omega))
      have HE2 := Lib.hid (show jnK 44 (wordsN xs) (k + 1) = S ++ B1 44 ++ decS m from HE.out)
      obtain ⟨D, hD⟩ : ∃ D, D = decS m := ⟨_, rfl⟩
      rw [← hD] at HD HE2 hds
      have n1 : ¬ 9223372036854775807 < 1 + D.size := by omega
      have n2 : ¬ 9223372036854775807 < S.size + (1 + D.size) := by omega
      clear hS hD HE hsm
      go_wp2_with (go_at_call 135; refine (HD.out _).mono ?_; rintro e w2 ⟨rfl, hb2⟩)
      go_roundw
      case rel => exact ⟨k + 1, by go_num, by omega, by omega, by rw [HE2.out, ByteArray.append_assoc]; rfl, Lib.hid (HB.out.trans (hb2.mono hsz))⟩
      case measure => simp [intOf]; omega
    · obtain rfl : k = xs.length := by omega
      go_wp2_with fail
      go_ret
      exact ⟨by rw [HLT.out]; rfl, HB.out⟩
def jobNums (j : JobD) : List Int := [j.long, j.due, j.weight, j.ready]
def numsK (js : List JobD) (k : Nat) : List Int := (js.take k).flatMap jobNums
theorem numsK_succ (js : List JobD) (k : Nat) (h : k < js.length) : numsK js (k + 1) = numsK js k ++ jobNums (js.getD k J0) := by
  unfold numsK
  rw [List.take_add_one, List.flatMap_append, List.getElem?_eq_getElem h, List.getD_eq_getElem?_getD, List.getElem?_eq_getElem h]
  simp
theorem numsK_len (js : List JobD) : ∀ k, k ≤ js.length → (numsK js k).length = 4 * k
  | 0, _ => by simp [numsK]
  | k + 1, h => by rw [numsK_succ js k (by omega), List.length_append, numsK_len js k (by omega)]; simp [jobNums]; omega
theorem slcI_four (w : World) (a b c d : Int) (B : Nat) (hB : B = w.heap.size) : Slc (w.alloc (.cells #[.int .i64 a, .int .i64 b, .int .i64 c, .int .i64 d] 2)) (.slice (some ⟨B, 0, none⟩) 4 4) ([a, b, c, d].map I64) := by
  subst hB
  have h := World.ownsRow_lit (base := w.heap.size) (e := 2) (size := 1) w #[.int .i64 a, .int .i64 b, .int .i64 c, .int .i64 d] 4 (Nat.le_refl _) (by simp [maxLen]) rfl
  exact slc_of_owns h
theorem nums_small {js : List JobD} (h : areJobsB js = true) : ∀ x, x ∈ numsK js js.length → 0 ≤ x ∧ x ≤ 100000 := by
  unfold areJobsB at h
  rw [Bool.and_eq_true, inB_iff, allB_iff] at h
  intro x hx
  unfold numsK at hx
  rw [List.take_length, List.mem_flatMap] at hx
  obtain ⟨j, hj, hx⟩ := hx
  obtain ⟨i, hi, rfl⟩ := List.mem_iff_getElem.1 hj
  have := h.2 i hi
  rw [List.getD_eq_getElem?_getD, List.getElem?_eq_getElem hi] at this
  unfold jobB at this
  simp only [Option.getD_some, Bool.and_eq_true, inB_iff] at this
  unfold jobNums at hx
  simp only [List.mem_cons, List.not_mem_nil, or_false] at hx
  rcases hx with rfl | rfl | rfl | rfl <;> omega
theorem nums_sm {js : List JobD} (h : areJobsB js = true) : Small (numsK js js.length) := by
  intro k hk
  have := nums_small h ((numsK js js.length).getD k 0) (by rw [List.getD_eq_getElem?_getD, List.getElem?_eq_getElem hk]; exact List.getElem_mem _)
  omega
def jobT (js : List JobD) : ByteArray := if areJobsB js = true then listT (numsK js js.length) else E0
set_option maxHeartbeats 1000000 in
set_option maxRecDepth 4000 in
theorem l08Jobs_any (v : Value) (js : List JobD) (w : World) (h : RdJ w v js) (hj : areJobsB js = true) :
    Calls Tryz.prog 139 #[v] w fun e w' => e = .returned (.string (listT (numsK js js.length))) ∧ Below w.heap.size w w' := by
  have hn : js.length ≤ 12 := by
    unfold areJobsB at hj
    rw [Bool.and_eq_true, inB_iff] at hj
    omega
  have HSM := Lib.hid (nums_sm hj)
  obtain ⟨a, c, rfl⟩ := h.shape
  have HR := Lib.hid h
  clear h hj
  go_enter Tryz.func139, Tryz.ntmps139
  go_wp2_with fail
  go_loopw [3, 4] (fun ov iv wr => ∃ (k m : Nat) (b : Option Addr) (cc : Nat), iv = .int .i64 k ∧ k ≤ js.length ∧ m = 4 * k ∧ ov = .slice b m cc ∧ Hid (wr.ownsRow w.heap.size 2 1 (.slice b m cc) m ((numsK js k).map I64)) ∧ Hid (Below w.heap.size w wr)) (fun _ iv _ => js.length + 1 - (intOf iv).toNat)
  case atStart => exact ⟨0, 0, _, _, rfl, Nat.zero_le _, rfl, rfl, Lib.hid (owns_empty w), Lib.hid ((Below.refl _ _).alloc (Nat.le_refl _) _)⟩
  case round =>
    obtain ⟨k, m, b, cc, rfl, hk, hm, rfl, HO, HB⟩ := hrel
    obtain ⟨wo, rfl⟩ : ∃ wo, wo = wr := ⟨wr, rfl⟩
    have hsz := HB.out.size
    by_cases hlt : k < js.length
    · have hlt' : (k : Int) < js.length := by omega
      obtain ⟨jb, jo, rfl, hjb, d0, d1, d2, d3⟩ := (HR.out.up HB.out (Nat.le_refl _)).at hlt
      have HE := Lib.hid (numsK_succ js k hlt)
      obtain ⟨j, hje⟩ : ∃ j, j = js.getD k J0 := ⟨_, rfl⟩
      rw [← hje] at d0 d1 d2 d3 HE
      have HE2 := Lib.hid (show numsK js (k + 1) = numsK js k ++ [j.long, j.due, j.weight, j.ready] from HE.out)
      have hlw : Below w.heap.size wo (wo.drew.alloc (.cells #[.int .i64 j.long, .int .i64 j.due, .int .i64 j.weight, .int .i64 j.ready] 2)) := ((Below.refl _ _).drew).alloc hsz _
      have HLW := Lib.hid hlw
      have hm4 : m + 4 ≤ 1000 := by omega
      have HM := Lib.hid hm
      clear hje HE hlw hm
      go_wp2_with fail
      go_region_law (refine step_app_intsL rfl (.tmp 12) (.tmp 33) rfl w.heap.size (.slice b m cc) m (numsK js k) (by simp [Act.eval, Act.put]) (HO.out.drew.alloc _) _ [j.long, j.due, j.weight, j.ready] (by simp [Act.eval, Act.put]) (slcI_four _ _ _ _ _ _ rfl) (m + 4) (numsK js (k + 1)) (by simp) HE2.out (by omega) (by simp; omega) ?_; intro b3 c3 w3 hown3 hbl3 _ _)
      all_goals
        go_wp2_with fail
        go_roundw
        case rel => exact ⟨k + 1, m + 4, b3, c3, by go_num, by omega, by have := HM.out; omega, rfl, Lib.hid hown3, Lib.hid (HB.out.trans (HLW.out.trans hbl3))⟩
        case measure => simp [intOf]; omega
    · obtain rfl : k = js.length := by omega
      have hrd : RdI wo (.slice b m cc) (numsK js js.length) := slc_of_owns HO.out
      have hnl := numsK_len js js.length (Nat.le_refl _)
      have HT := Lib.hid (l01Text_any _ (numsK js js.length) wo hrd HSM.out (by omega))
      clear hrd hnl hm
      go_wp2_with (go_at_call 138; refine HT.out.mono ?_; rintro e w1 ⟨rfl, hb1⟩)
      go_ret
      exact ⟨rfl, HB.out.trans (hb1.mono hsz)⟩
end Go.Proofs.YtgkbbpajkbkgnaaGreatDoor
