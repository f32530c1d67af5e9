/-
  FnRules: texts joined: ValidR, Step, AppF, ValidRS, Round.
-/
import Derived.Deep.RegionHeld3
import Derived.Deep.CutRange
import Derived.Test.YtfdaifmfecfchaaMFnRulesAA
import Derived.Test.YtfdaifmfecfchaaMFnRulesAB
namespace Go.Proofs.Ytfdaifmfecfchaa
open Go.RowKit

structure ValR (r : RowsD) : Prop where
  v1 : 1 ≤ r.vars
  v8 : r.vars ≤ 8
  b1 : 1 ≤ r.bnds.length
  b8 : r.bnds.length ≤ 8
  gl : (r.gains.length : Int) = r.vars
  nl : (r.nums.length : Int) = r.vars * r.bnds.length
  fn : allFin r.nums = true
  fg : allFin r.gains = true
  lb : ∀ i, i < r.bnds.length → least (r.bnds.getD i 0) = true
open Classical in
noncomputable def validR (r : RowsD) : Bool := decide (ValR r)
theorem validR_true {r : RowsD} (h : ValR r) : validR r = true := by simp [validR, h]
theorem validR_false {r : RowsD} (h : ¬ ValR r) : validR r = false := by simp [validR, h]
theorem validR_iff {r : RowsD} : validR r = true ↔ ValR r := by simp [validR]
theorem least_fin {x : Nat} (h : least x = true) : fin32 x = true := by
  unfold least at h; simp only [Bool.and_eq_true] at h; exact h.1

theorem lt_of_least {x : Nat} (h : least x = true) : (FloatKind.f32.format.order x 0 == some .lt) = false := by
  rw [lt_geq (least_fin h)]
  unfold least at h; simp only [Bool.and_eq_true] at h
  simp [h.2]
theorem least_of {x : Nat} (hf : fin32 x = true) (h : (FloatKind.f32.format.order x 0 == some .lt) = false) : least x = true := by
  rw [lt_geq hf] at h
  unfold least
  simp at h
  simp [hf, h]
theorem mulR {n0 : Int} {k : Nat} (h1 : 1 ≤ n0) (h8 : n0 ≤ 8) (hk : k ≤ 8) : 0 ≤ n0 * (k : Int) ∧ n0 * (k : Int) ≤ 64 := by
  constructor
  · exact Int.mul_nonneg (by omega) (by omega)
  · have : n0 * (k : Int) ≤ 8 * 8 := Int.mul_le_mul h8 (by omega) (by omega) (by decide)
    omega

set_option maxHeartbeats 4000000 in
set_option maxRecDepth 4000 in
theorem VR_hA (n0 : Int) (x1 x2 x3 : List Nat) (a1 a2 a3 : Option Addr) (c1 c2 c3 : Nat) (w : World) (P1 : Hid (RdF w (.slice a1 x1.length c1) x1)) (P2 : Hid (RdF w (.slice a2 x2.length c2) x2)) (P3 : Hid (RdF w (.slice a3 x3.length c3) x3)) (l1 : x1.length ≤ 9223372036854775807) (l2 : x2.length ≤ 9223372036854775807) (l3 : x3.length ≤ 9223372036854775807)
    (hA : ¬ (1 ≤ n0 ∧ n0 ≤ 8)) :
    Calls Try.prog 72 #[.agg #[.int .i64 n0, .slice a1 x1.length c1, .slice a2 x2.length c2, .slice a3 x3.length c3]] w fun e w' => e = .returned (.bool (validR ⟨n0, x1, x2, x3⟩)) ∧ Below w.heap.size w w' := by
    have hin := inB_false (lo := 1) (hi := 8) (n := n0) hA
    have HNO := Lib.hid (validR_false (r := ⟨n0, x1, x2, x3⟩) (fun h => hA ⟨h.v1, h.v8⟩))
    clear hA
    go_enter Try.func72, Try.ntmps72
    go_wp2_with fail
    refine wp_at fun W hW => ?_
    have HB := Lib.hid (show Below w.heap.size w W by subst hW; (repeat' first | exact Below.refl _ _ | assumption | refine Below.alloc ?_ ?_ _ | refine Below.setCell ?_ ?_ _ | refine Below.drew ?_ | (simp; done) | (simp; omega)))
    have HK := Lib.hid (show Blk W w.heap.size 61 #[.int .i64 n0, .slice a1 x1.length c1, .slice a2 x2.length c2, .slice a3 x3.length c3] by subst hW; exact Blk.new _ _ _)
    clear hW
    have d0 : W.cell? ⟨w.heap.size, 0, none⟩ = some (.int .i64 n0) := HK.out.cell 0 rfl
    have d1 : W.cell? ⟨w.heap.size, 1, none⟩ = some (.slice a1 x1.length c1) := HK.out.cell 1 rfl
    have d2 : W.cell? ⟨w.heap.size, 2, none⟩ = some (.slice a2 x2.length c2) := HK.out.cell 2 rfl
    have d3 : W.cell? ⟨w.heap.size, 3, none⟩ = some (.slice a3 x3.length c3) := HK.out.cell 3 rfl
    go_quiet (first
      | (go_at_call 47; exact quiet_same (size_any _ _ (by unfold maxLen; omega)))
      | (go_at_call 55; exact quiet_same (within_any _ _ _ _)))
    go_wp2_with fail
    go_ret
    exact ⟨by rw [HNO.out]; rfl, below_drewN HB.out _⟩

set_option maxHeartbeats 4000000 in
set_option maxRecDepth 4000 in
theorem VR_hB (n0 : Int) (x1 x2 x3 : List Nat) (a1 a2 a3 : Option Addr) (c1 c2 c3 : Nat) (w : World) (P1 : Hid (RdF w (.slice a1 x1.length c1) x1)) (P2 : Hid (RdF w (.slice a2 x2.length c2) x2)) (P3 : Hid (RdF w (.slice a3 x3.length c3) x3)) (l1 : x1.length ≤ 9223372036854775807) (l2 : x2.length ≤ 9223372036854775807) (l3 : x3.length ≤ 9223372036854775807)
    (hA : 1 ≤ n0 ∧ n0 ≤ 8) (hB : ¬ (1 ≤ x2.length ∧ x2.length ≤ 8)) :
    Calls Try.prog 72 #[.agg #[.int .i64 n0, .slice a1 x1.length c1, .slice a2 x2.length c2, .slice a3 x3.length c3]] w fun e w' => e = .returned (.bool (validR ⟨n0, x1, x2, x3⟩)) ∧ Below w.heap.size w w' := by
    have hin := inB_true (lo := 1) (hi := 8) (n := n0) hA
    have hin2 := inB_false (lo := 1) (hi := 8) (n := (x2.length : Int)) (by omega)
    have HNO := Lib.hid (validR_false (r := ⟨n0, x1, x2, x3⟩) (fun h => hB ⟨h.b1, h.b8⟩))
    clear hA hB
    go_enter Try.func72, Try.ntmps72
    go_wp2_with fail
    refine wp_at fun W hW => ?_
    have HB := Lib.hid (show Below w.heap.size w W by subst hW; (repeat' first | exact Below.refl _ _ | assumption | refine Below.alloc ?_ ?_ _ | refine Below.setCell ?_ ?_ _ | refine Below.drew ?_ | (simp; done) | (simp; omega)))
    have HK := Lib.hid (show Blk W w.heap.size 61 #[.int .i64 n0, .slice a1 x1.length c1, .slice a2 x2.length c2, .slice a3 x3.length c3] by subst hW; exact Blk.new _ _ _)
    clear hW
    have d0 : W.cell? ⟨w.heap.size, 0, none⟩ = some (.int .i64 n0) := HK.out.cell 0 rfl
    have d1 : W.cell? ⟨w.heap.size, 1, none⟩ = some (.slice a1 x1.length c1) := HK.out.cell 1 rfl
    have d2 : W.cell? ⟨w.heap.size, 2, none⟩ = some (.slice a2 x2.length c2) := HK.out.cell 2 rfl
    have d3 : W.cell? ⟨w.heap.size, 3, none⟩ = some (.slice a3 x3.length c3) := HK.out.cell 3 rfl
    go_quiet (first
      | (go_at_call 47; exact quiet_same (size_any _ _ (by unfold maxLen; omega)))
      | (go_at_call 55; exact quiet_same (within_any _ _ _ _)))
    go_wp2_with fail
    go_ret
    exact ⟨by rw [HNO.out]; rfl, below_drewN HB.out _⟩

set_option maxHeartbeats 4000000 in
set_option maxRecDepth 4000 in
theorem VR_hC (n0 : Int) (x1 x2 x3 : List Nat) (a1 a2 a3 : Option Addr) (c1 c2 c3 : Nat) (w : World) (P1 : Hid (RdF w (.slice a1 x1.length c1) x1)) (P2 : Hid (RdF w (.slice a2 x2.length c2) x2)) (P3 : Hid (RdF w (.slice a3 x3.length c3) x3)) (l1 : x1.length ≤ 9223372036854775807) (l2 : x2.length ≤ 9223372036854775807) (l3 : x3.length ≤ 9223372036854775807)
    (hA : 1 ≤ n0 ∧ n0 ≤ 8) (hB : 1 ≤ x2.length ∧ x2.length ≤ 8) (hC : ¬ ((x3.length : Int) = n0)) :
    Calls Try.prog 72 #[.agg #[.int .i64 n0, .slice a1 x1.length c1, .slice a2 x2.length c2, .slice a3 x3.length c3]] w fun e w' => e = .returned (.bool (validR ⟨n0, x1, x2, x3⟩)) ∧ Below w.heap.size w w' := by
    have hin := inB_true (lo := 1) (hi := 8) (n := n0) hA
    have hin2 := inB_true (lo := 1) (hi := 8) (n := (x2.length : Int)) (by omega)
    have hcb : ((x3.length : Int) != n0) = true := by simp [hC]
    have HNO := Lib.hid (validR_false (r := ⟨n0, x1, x2, x3⟩) (fun h => hC h.gl))
    clear hA hC
    go_enter Try.func72, Try.ntmps72
    go_wp2_with fail
    refine wp_at fun W hW => ?_
    have HB := Lib.hid (show Below w.heap.size w W by subst hW; (repeat' first | exact Below.refl _ _ | assumption | refine Below.alloc ?_ ?_ _ | refine Below.setCell ?_ ?_ _ | refine Below.drew ?_ | (simp; done) | (simp; omega)))
    have HK := Lib.hid (show Blk W w.heap.size 61 #[.int .i64 n0, .slice a1 x1.length c1, .slice a2 x2.length c2, .slice a3 x3.length c3] by subst hW; exact Blk.new _ _ _)
    clear hW
    have d0 : W.cell? ⟨w.heap.size, 0, none⟩ = some (.int .i64 n0) := HK.out.cell 0 rfl
    have d1 : W.cell? ⟨w.heap.size, 1, none⟩ = some (.slice a1 x1.length c1) := HK.out.cell 1 rfl
    have d2 : W.cell? ⟨w.heap.size, 2, none⟩ = some (.slice a2 x2.length c2) := HK.out.cell 2 rfl
    have d3 : W.cell? ⟨w.heap.size, 3, none⟩ = some (.slice a3 x3.length c3) := HK.out.cell 3 rfl
    go_quiet (first
      | (go_at_call 47; exact quiet_same (size_any _ _ (by unfold maxLen; omega)))
      | (go_at_call 55; exact quiet_same (within_any _ _ _ _)))
    go_wp2_with fail
    go_ret
    exact ⟨by rw [HNO.out]; rfl, below_drewN HB.out _⟩

set_option maxHeartbeats 4000000 in
set_option maxRecDepth 4000 in
theorem VR_hD (n0 : Int) (x1 x2 x3 : List Nat) (a1 a2 a3 : Option Addr) (c1 c2 c3 : Nat) (w : World) (P1 : Hid (RdF w (.slice a1 x1.length c1) x1)) (P2 : Hid (RdF w (.slice a2 x2.length c2) x2)) (P3 : Hid (RdF w (.slice a3 x3.length c3) x3)) (l1 : x1.length ≤ 9223372036854775807) (l2 : x2.length ≤ 9223372036854775807) (l3 : x3.length ≤ 9223372036854775807)
    (hA : 1 ≤ n0 ∧ n0 ≤ 8) (hB : 1 ≤ x2.length ∧ x2.length ≤ 8) (hC : (x3.length : Int) = n0) (hD : ¬ ((x1.length : Int) = n0 * x2.length)) :
    Calls Try.prog 72 #[.agg #[.int .i64 n0, .slice a1 x1.length c1, .slice a2 x2.length c2, .slice a3 x3.length c3]] w fun e w' => e = .returned (.bool (validR ⟨n0, x1, x2, x3⟩)) ∧ Below w.heap.size w w' := by
    have hin := inB_true (lo := 1) (hi := 8) (n := n0) hA
    have hin2 := inB_true (lo := 1) (hi := 8) (n := (x2.length : Int)) (by omega)
    have hcb : ((x3.length : Int) != n0) = false := by simp [hC]
    obtain ⟨M, hM⟩ : ∃ M : Int, M = n0 * x2.length := ⟨_, rfl⟩
    have hM0 : 0 ≤ M ∧ M ≤ 64 := by have := mulR hA.1 hA.2 hB.2; omega
    have hmul : IntKind.i64.wrap (n0 * (x2.length : Int)) = M := by rw [IntWalk.i64_in _ (by omega), hM]
    have hdb : ((x1.length : Int) != M) = true := by rw [hM]; simp [hD]
    have HM := Lib.hid hM
    clear hM
    have HNO := Lib.hid (validR_false (r := ⟨n0, x1, x2, x3⟩) (fun h => hD h.nl))
    clear hA hC hD
    go_enter Try.func72, Try.ntmps72
    go_wp2_with fail
    refine wp_at fun W hW => ?_
    have HB := Lib.hid (show Below w.heap.size w W by subst hW; (repeat' first | exact Below.refl _ _ | assumption | refine Below.alloc ?_ ?_ _ | refine Below.setCell ?_ ?_ _ | refine Below.drew ?_ | (simp; done) | (simp; omega)))
    have HK := Lib.hid (show Blk W w.heap.size 61 #[.int .i64 n0, .slice a1 x1.length c1, .slice a2 x2.length c2, .slice a3 x3.length c3] by subst hW; exact Blk.new _ _ _)
    clear hW
    have d0 : W.cell? ⟨w.heap.size, 0, none⟩ = some (.int .i64 n0) := HK.out.cell 0 rfl
    have d1 : W.cell? ⟨w.heap.size, 1, none⟩ = some (.slice a1 x1.length c1) := HK.out.cell 1 rfl
    have d2 : W.cell? ⟨w.heap.size, 2, none⟩ = some (.slice a2 x2.length c2) := HK.out.cell 2 rfl
    have d3 : W.cell? ⟨w.heap.size, 3, none⟩ = some (.slice a3 x3.length c3) := HK.out.cell 3 rfl
    go_quiet (first
      | (go_at_call 47; exact quiet_same (size_any _ _ (by unfold maxLen; omega)))
      | (go_at_call 55; exact quiet_same (within_any _ _ _ _)))
    go_wp2_with fail
    go_ret
    exact ⟨by rw [HNO.out]; rfl, below_drewN HB.out _⟩

set_option maxHeartbeats 4000000 in
set_option maxRecDepth 4000 in
theorem VR_yes (n0 : Int) (x1 x2 x3 : List Nat) (a1 a2 a3 : Option Addr) (c1 c2 c3 : Nat) (w : World) (P1 : Hid (RdF w (.slice a1 x1.length c1) x1)) (P2 : Hid (RdF w (.slice a2 x2.length c2) x2)) (P3 : Hid (RdF w (.slice a3 x3.length c3) x3)) (l1 : x1.length ≤ 9223372036854775807) (l2 : x2.length ≤ 9223372036854775807) (l3 : x3.length ≤ 9223372036854775807)
    (hA : 1 ≤ n0 ∧ n0 ≤ 8) (hB : 1 ≤ x2.length ∧ x2.length ≤ 8) (hC : (x3.length : Int) = n0) (hD : (x1.length : Int) = n0 * x2.length)  :
    Calls Try.prog 72 #[.agg #[.int .i64 n0, .slice a1 x1.length c1, .slice a2 x2.length c2, .slice a3 x3.length c3]] w fun e w' => e = .returned (.bool (validR ⟨n0, x1, x2, x3⟩)) ∧ Below w.heap.size w w' := by
  have hin := inB_true (lo := 1) (hi := 8) (n := n0) hA
  have hin2 := inB_true (lo := 1) (hi := 8) (n := (x2.length : Int)) (by omega)
  have hcb : ((x3.length : Int) != n0) = false := by simp [hC]
  obtain ⟨M, hM⟩ : ∃ M : Int, M = n0 * x2.length := ⟨_, rfl⟩
  have hM0 : 0 ≤ M ∧ M ≤ 64 := by have := mulR hA.1 hA.2 hB.2; omega
  have hmul : IntKind.i64.wrap (n0 * (x2.length : Int)) = M := by rw [IntWalk.i64_in _ (by omega), hM]
  have hdb : ((x1.length : Int) != M) = false := by rw [hM]; simp [hD]
  have HM := Lib.hid hM
  clear hM
  have HC := Lib.hid hC
  have HD := Lib.hid hD
  have HA := Lib.hid hA
  have HBB := Lib.hid hB
  clear hA hC hD
  go_enter Try.func72, Try.ntmps72
  go_wp2_with fail
  refine wp_at fun W hW => ?_
  have HB := Lib.hid (show Below w.heap.size w W by subst hW; (repeat' first | exact Below.refl _ _ | assumption | refine Below.alloc ?_ ?_ _ | refine Below.setCell ?_ ?_ _ | refine Below.drew ?_ | (simp; done) | (simp; omega)))
  have HK := Lib.hid (show Blk W w.heap.size 61 #[.int .i64 n0, .slice a1 x1.length c1, .slice a2 x2.length c2, .slice a3 x3.length c3] by subst hW; exact Blk.new _ _ _)
  clear hW
  have d0 : W.cell? ⟨w.heap.size, 0, none⟩ = some (.int .i64 n0) := HK.out.cell 0 rfl
  have d1 : W.cell? ⟨w.heap.size, 1, none⟩ = some (.slice a1 x1.length c1) := HK.out.cell 1 rfl
  have d2 : W.cell? ⟨w.heap.size, 2, none⟩ = some (.slice a2 x2.length c2) := HK.out.cell 2 rfl
  have d3 : W.cell? ⟨w.heap.size, 3, none⟩ = some (.slice a3 x3.length c3) := HK.out.cell 3 rfl
  go_quiet (first
    | (go_at_call 47; exact quiet_same (size_any _ _ (by unfold maxLen; omega)))
    | (go_at_call 55; exact quiet_same (within_any _ _ _ _)))
  obtain ⟨W2, hW2⟩ : ∃ W2, W2 = W.drewN nq := ⟨_, rfl⟩
  rw [← hW2]
  have HB2 := Lib.hid (show Below w.heap.size w W2 by subst hW2; exact below_drewN HB.out _)
  have HK2 := Lib.hid (show Blk W2 w.heap.size 61 #[.int .i64 n0, .slice a1 x1.length c1, .slice a2 x2.length c2, .slice a3 x3.length c3] by subst hW2; exact HK.out)
  clear hW2 d0 d1 d2 d3
  have d2 : W2.cell? ⟨w.heap.size, 2, none⟩ = some (.slice a2 x2.length c2) := HK2.out.cell 2 rfl
  go_wp2_with fail
  go_loopw [43] (fun i wr => ∃ k : Nat, i = .int .i64 k ∧ k ≤ x2.length ∧ Hid (∀ j, j < k → (FloatKind.f32.format.order (x2.getD j 0) 0 == some .lt) = false) ∧ wr = W2) (fun i _ => x2.length - (intOf i).toNat)
  case atStart => exact ⟨0, rfl, Nat.zero_le _, fun j hj => by omega, rfl⟩
  case round =>
    obtain ⟨k, rfl, hk, hall, rfl⟩ := hrel
    by_cases hlt : k < x2.length
    · obtain ⟨b, off, rfl, _, hc⟩ := (P2.out.up HB2.out (Nat.le_refl _)).at hlt
      obtain ⟨x, hx⟩ : ∃ x, x = x2.getD k 0 := ⟨_, rfl⟩
      rw [← hx] at hc
      have HX := Lib.hid hx
      clear hx
      by_cases hq : (FloatKind.f32.format.order x 0 == some .lt) = true
      · have HNO := Lib.hid (validR_false (r := ⟨n0, x1, x2, x3⟩) (fun h => by
          have h1 := lt_of_least (h.lb k hlt)
          simp only at h1
          rw [← HX.out, hq] at h1
          cases h1))
        go_wp2_with fail
        go_ret
        exact ⟨by rw [HNO.out]; rfl, HB2.out⟩
      · rw [Bool.not_eq_true] at hq
        go_wp2_with fail
        go_roundw
        case rel => exact ⟨k + 1, by go_num, by omega, fun j hj => by
          rcases Nat.lt_succ_iff_lt_or_eq.1 hj with h | rfl
          · exact hall.out j h
          · rw [← HX.out]; exact hq, by first | trivial | rfl⟩
        case measure => simp [intOf]; omega
    · obtain rfl : k = x2.length := by omega
      go_wp2_with fail
      refine (areFinite_any _ x2 _ (P2.out.up HB2.out (Nat.le_refl _))).mono ?_
      rintro e w1 ⟨rfl, hd1⟩
      have HB3 := Lib.hid (show Below w.heap.size w w1 by obtain ⟨m, rfl⟩ := hd1; exact below_drewN HB2.out _)
      have HK3 := Lib.hid (show Blk w1 w.heap.size 61 #[.int .i64 n0, .slice a1 x1.length c1, .slice a2 x2.length c2, .slice a3 x3.length c3] by obtain ⟨m, rfl⟩ := hd1; exact HK2.out)
      clear hd1
      by_cases hf2 : allFin x2 = true
      case neg =>
        rw [Bool.not_eq_true] at hf2
        have HNO := Lib.hid (validR_false (r := ⟨n0, x1, x2, x3⟩) (fun h => by
          have : allFin x2 = true := allFin_yes fun i hi => least_fin (h.lb i hi)
          rw [hf2] at this; cases this))
        rw [hf2]
        go_wp2_with fail
        go_ret
        exact ⟨by rw [HNO.out]; rfl, HB3.out⟩
      rw [hf2]
      have HF2 := Lib.hid hf2
      clear hf2
      have d3 : w1.cell? ⟨w.heap.size, 3, none⟩ = some (.slice a3 x3.length c3) := HK3.out.cell 3 rfl
      go_wp2_with fail
      refine (areFinite_any _ x3 _ (P3.out.up HB3.out (Nat.le_refl _))).mono ?_
      rintro e w2 ⟨rfl, hd1⟩
      have HB4 := Lib.hid (show Below w.heap.size w w2 by obtain ⟨m, rfl⟩ := hd1; exact below_drewN HB3.out _)
      have HK4 := Lib.hid (show Blk w2 w.heap.size 61 #[.int .i64 n0, .slice a1 x1.length c1, .slice a2 x2.length c2, .slice a3 x3.length c3] by obtain ⟨m, rfl⟩ := hd1; exact HK3.out)
      clear hd1 d3
      by_cases hf3 : allFin x3 = true
      case neg =>
        rw [Bool.not_eq_true] at hf3
        have HNO := Lib.hid (validR_false (r := ⟨n0, x1, x2, x3⟩) (fun h => by
          have := h.fg
          simp only at this
          rw [hf3] at this; cases this))
        rw [hf3]
        go_wp2_with fail
        go_ret
        exact ⟨by rw [HNO.out]; rfl, HB4.out⟩
      rw [hf3]
      have HF3 := Lib.hid hf3
      clear hf3
      have d1 : w2.cell? ⟨w.heap.size, 1, none⟩ = some (.slice a1 x1.length c1) := HK4.out.cell 1 rfl
      go_wp2_with fail
      refine (areFinite_any _ x1 _ (P1.out.up HB4.out (Nat.le_refl _))).mono ?_
      rintro e w3 ⟨rfl, hd1⟩
      have HB5 := Lib.hid (show Below w.heap.size w w3 by obtain ⟨m, rfl⟩ := hd1; exact below_drewN HB4.out _)
      clear hd1 d1
      have HV : Hid (validR ⟨n0, x1, x2, x3⟩ = allFin x1) := by
        show validR _ = allFin x1
        by_cases hf1 : allFin x1 = true
        · rw [hf1]
          exact validR_true ⟨HA.out.1, HA.out.2, HBB.out.1, HBB.out.2, HC.out, HD.out, hf1, HF3.out, fun i hi => least_of (allFin_get HF2.out hi) (hall.out i hi)⟩
        · rw [Bool.not_eq_true] at hf1
          rw [hf1]
          exact validR_false (fun h => by have := h.fn; simp only at this; rw [hf1] at this; cases this)
      go_wp2_with fail
      go_ret
      exact ⟨by rw [HV.out]; rfl, HB5.out⟩

set_option maxHeartbeats 4000000 in
set_option maxRecDepth 4000 in
theorem ValidRows_any (v : Value) (r : RowsD) (w : World) (h : RdR w v r) :
    Calls Try.prog 72 #[v] w fun e w' => e = .returned (.bool (validR r)) ∧ Below w.heap.size w w' := by
  obtain ⟨a1, c1, a2, c2, a3, c3, rfl⟩ := h.shape
  obtain ⟨p1, p2, p3⟩ := h.parts
  obtain ⟨n0, x1, x2, x3⟩ := r
  simp only at p1 p2 p3 ⊢
  have l1 := p1.len
  have l2 := p2.len
  have l3 := p3.len
  unfold maxLen at l1 l2 l3
  have P1 := Lib.hid p1
  have P2 := Lib.hid p2
  have P3 := Lib.hid p3
  clear h p1 p2 p3
  by_cases hA : 1 ≤ n0 ∧ n0 ≤ 8
  case neg => exact VR_hA n0 x1 x2 x3 a1 a2 a3 c1 c2 c3 w P1 P2 P3 (by omega) (by omega) (by omega) hA
  by_cases hB : 1 ≤ x2.length ∧ x2.length ≤ 8
  case neg => exact VR_hB n0 x1 x2 x3 a1 a2 a3 c1 c2 c3 w P1 P2 P3 (by omega) (by omega) (by omega) hA hB
  by_cases hC : (x3.length : Int) = n0
  case neg => exact VR_hC n0 x1 x2 x3 a1 a2 a3 c1 c2 c3 w P1 P2 P3 (by omega) (by omega) (by omega) hA hB hC
  by_cases hD : (x1.length : Int) = n0 * x2.length
  case neg => exact VR_hD n0 x1 x2 x3 a1 a2 a3 c1 c2 c3 w P1 P2 P3 (by omega) (by omega) (by omega) hA hB hC hD
  exact VR_yes n0 x1 x2 x3 a1 a2 a3 c1 c2 c3 w P1 P2 P3 (by omega) (by omega) (by omega) hA hB hC hD


end Go.Proofs.Ytfdaifmfecfchaa

namespace Go.Proofs.Ytfdaifmfecfchaa
open Go.RowKit

theorem wp_app_ints {w : World} {o : Oper} {a : Act} {K : Act → World → Prop} {Q : Exit → Act → World → Prop} (s x : Operand)
    (ho : o.op = .call { callee := .builtin .append, args := #[s, x], argTypes := #[27, 27] })
    (base : Nat) (v : Value) (n : Nat) (xs : List Int) (hs : a.eval s = v) (hown : w.ownsRow base 2 1 v n (xs.map I64))
    (sv : Value) (news : List Int) (hx : a.eval x = sv) (hsv : Slc w sv (news.map I64)) (m : Nat) (ys : List Int) (hm : m = n + news.length) (hys : ys = xs ++ news) (hlen : m ≤ 17592186044416) (hbase : base ≤ w.heap.size)
    (h : ∀ a' cap' w', w'.ownsRow base 2 1 (.slice a' m cap') m (ys.map I64) → Below base w w' → w.grownBy w' v.ownBlock → (Value.slice a' m cap' = .slice none 0 0 ↔ v = .slice none 0 0 ∧ news = []) → K (a.put o.dst (.slice a' m cap')) w') :
    o.wp Try.prog a w K Q := by
  obtain ⟨i0, hi, hz0, hz1, hz2⟩ := info_parts Try.infoI64
  subst hm hys
  have hk : ∀ v' w', w'.ownsRow base 2 1 v' (n + news.length) (xs.map I64 ++ news.map I64) → w.grownBy w' v.ownBlock → (v' = .slice none 0 0 ↔ v = .slice none 0 0 ∧ news = []) → K (a.put o.dst v') w' := by
    intro v' w' h1 h2 h3
    have h1' : w'.ownsRow base 2 1 v' (n + news.length) ((xs ++ news).map I64) := by simpa using h1
    obtain ⟨a', cap', rfl⟩ := owns_shape h1'
    exact h a' cap' w' h1' (below_grown hown hbase h2) h2 h3
  rcases hsv with ⟨rfl, hnil⟩ | ⟨ad, cap, rfl, hcl, hcm, hc⟩
  · have hn : news = [] := by simpa using hnil
    subst hn
    have hrun := run_append_owned_none (P := Try.prog) (w := w) base 27 o.type 2 i0 1 Try.underlying27 hi v n (xs.map I64) hown
    unfold Oper.wp
    simp [execOp, ho, resolve, invoke, builtin, hs, hx, hrun, Result.andThen]
    exact hk v w (by simpa using hown) (World.grownBy.refl _ _) (by simp)
  · refine wp_append_own w s x 27 ho base 2 i0 (.int .i64 0) 1 8 Try.underlying27 hi hz0 hz1 hz2 rfl (by decide) v n (xs.map I64) hs hown ad (news.map I64).length cap (news.map I64) hx (by simp) hc (i64_one news) (by simp [maxLen]; omega) (by simp; omega) hbase ?_
    intro v' w' h2 h3 h4
    exact hk v' w' (by simpa using h2) h3 (by rw [h4]; simp)

theorem step_app_own {w : World} {ops : Array Oper} {o : Oper} {a : Act} {K : Act → World → Prop} {Q : Exit → Act → World → Prop} {E : Prop} (hgd : o.guard = none) (s x : Operand)
    (ho : o.op = .call { callee := .builtin .append, args := #[s, x], argTypes := #[27, 27] })
    (base : Nat) (ad : Addr) (n cap : Nat) (xs : List Int) (hs : a.eval s = .slice (some ad) n cap) (hown : w.ownsRow base 2 1 (.slice (some ad) n cap) n (xs.map I64))
    (sv : Value) (news : List Int) (hx : a.eval x = sv) (hsv : Slc w sv (news.map I64)) (m : Nat) (ys : List Int) (hm : m = n + news.length) (hys : ys = xs ++ news) (hlen : m ≤ 17592186044416) (hbase : base ≤ w.heap.size)
    (h : ∀ g cap' w', w'.ownsRow base 2 1 (.slice (some ⟨g, 0, none⟩) m cap') m (ys.map I64) → Below base w w' → w.grownBy w' (Value.slice (some ad) n cap).ownBlock → K (a.put o.dst (.slice (some ⟨g, 0, none⟩) m cap')) w') :
    if Region.wanted o (yielded ops a.tmps) = true then Oper.wp Try.prog o a w K Q else E := by
  have hw : Region.wanted o (yielded ops a.tmps) = true := by simp [Region.wanted, hgd]
  rw [if_pos hw]
  refine wp_app_ints s x ho base _ n xs hs hown sv news hx hsv m ys hm hys hlen hbase ?_
  intro a' cap' w' h1 h2 h3 h4
  obtain ⟨g, c, e, _⟩ := owns_some h1 (by intro e; have := h4.1 e; simp at this)
  simp only [Value.slice.injEq, true_and] at e
  obtain ⟨rfl, rfl⟩ := e
  exact h g _ w' h1 h2 h3

/-- A slice in one block reads on where this block is kept. -/
theorem slc_keptB {S : Nat → Prop} {w w' : World} {ad : Addr} {n cap : Nat} {vs : List Value} (h : Slc w (.slice (some ad) n cap) vs) (hk : Kept S w w') (hs : ¬ S ad.block) : Slc w' (.slice (some ad) n cap) vs := by
  rcases h with ⟨e1, _⟩ | ⟨ad2, cap2, e1, h1, h2, hc⟩
  · simp at e1
  · simp only [Value.slice.injEq, Option.some.injEq] at e1
    obtain ⟨rfl, rfl, rfl⟩ := e1
    refine .inr ⟨ad, cap, rfl, h1, h2, fun i u hi => ?_⟩
    have h0 := hc i u hi
    rw [hk.cell (cell_lt h0) (by rw [addr_add_block]; exact hs)]
    exact h0

/-- A new row of one stays as it is behind an append to another. -/
theorem slc_grown {w w' : World} {ad : Addr} {n cap : Nat} {vs : List Value} {row : Option Nat} (h : Slc w (.slice (some ad) n cap) vs) (hg : w.grownBy w' row) (hne : row ≠ some ad.block) : Slc w' (.slice (some ad) n cap) vs :=
  slc_keptB (S := fun k => row = some k) h ⟨hg.os, hg.tape, hg.output, hg.size, fun k hk hn => hg.block k hk fun e => hn e.symm⟩ hne

theorem slc_drew {w : World} {v : Value} {vs : List Value} (h : Slc w v vs) : Slc w.drew v vs := h
theorem slc_alloc {w : World} {v : Value} {vs : List Value} (h : Slc w v vs) (o : Obj) : Slc (w.alloc o) v vs := h.below ((Below.refl _ _).alloc (Nat.le_refl _) _) (Nat.le_refl _)

theorem slc_oneB (w : World) (z : Int) (b : Nat) (hb : b = w.heap.size) : Slc (w.alloc (.cells #[.int .i64 z] 2)) (.slice (some ⟨b, 0, none⟩) 1 1) ([z].map I64) := by subst hb; exact slc_one w z

theorem owns_emptyB (w : World) (b : Nat) (hb : b = w.heap.size) : (w.alloc (.cells #[] 2)).ownsRow w.heap.size 2 1 (.slice (some ⟨b, 0, none⟩) 0 0) 0 (([] : List Int).map I64) := by subst hb; exact owns_empty w
theorem owns_drew {w : World} {base : Nat} {e : TypeId} {v : Value} {n : Nat} {vs : List Value} (h : w.ownsRow base e 1 v n vs) : w.drew.ownsRow base e 1 v n vs := h

end Go.Proofs.Ytfdaifmfecfchaa

namespace Go.Proofs.Ytfdaifmfecfchaa
open Go.RowKit

theorem f32_one (xs : List Nat) : ∀ u ∈ xs.map F32, u.oneCell' = true := by
  intro u hu
  obtain ⟨x, _, rfl⟩ := List.mem_map.1 hu
  rfl

theorem app_flts {w : World} {ops : Array Oper} {rest : List Oper} {o : Oper} {a : Act} {Q : Exit → Act → World → Prop} (hgd : o.guard = none) (s x : Operand)
    (ho : o.op = .call { callee := .builtin .append, args := #[s, x], argTypes := #[51, 51] })
    (base : Nat) (v : Value) (n : Nat) (xs : List Nat) (hs : a.eval s = v) (hown : w.ownsRow base 53 1 v n (xs.map F32))
    (sv : Value) (news : List Nat) (hx : a.eval x = sv) (hsv : Slc w sv (news.map F32)) (m : Nat) (ys : List Nat) (hm : m = n + news.length) (hys : ys = xs ++ news) (hlen : m ≤ 17592186044416) (hbase : base ≤ w.heap.size)
    (h : ∀ a' cap' w', w'.ownsRow base 53 1 (.slice a' m cap') m (ys.map F32) → Below base w w' → w.grownBy w' v.ownBlock → (Value.slice a' m cap' = .slice none 0 0 ↔ v = .slice none 0 0 ∧ news = []) → wpList Try.prog ops Q rest (a.put o.dst (.slice a' m cap')) w') :
    wpList Try.prog ops Q (o :: rest) a w := by
  obtain ⟨i0, hi, hz0, hz1, hz2⟩ := info_parts Try.infoF32
  subst hm hys
  refine wpList_append_slc hgd s x 51 ho base 53 i0 (.float .f32 0) 4 Try.underlying51 hi hz0 hz1 hz2 rfl v n (xs.map F32) hs hown sv (news.map F32) hx hsv (f32_one news) (by simp [maxLen]; omega) (by simp; omega) hbase ?_
  intro v' w' h1 h2 h3
  have h1' : w'.ownsRow base 53 1 v' (n + news.length) ((xs ++ news).map F32) := by simpa using h1
  obtain ⟨a', cap', rfl⟩ := owns_shape h1'
  exact h a' cap' w' h1' (below_grown hown hbase h2) h2 (by simpa using h3)

theorem wp_app_flts {w : World} {o : Oper} {a : Act} {K : Act → World → Prop} {Q : Exit → Act → World → Prop} (s x : Operand)
    (ho : o.op = .call { callee := .builtin .append, args := #[s, x], argTypes := #[51, 51] })
    (base : Nat) (v : Value) (n : Nat) (xs : List Nat) (hs : a.eval s = v) (hown : w.ownsRow base 53 1 v n (xs.map F32))
    (sv : Value) (news : List Nat) (hx : a.eval x = sv) (hsv : Slc w sv (news.map F32)) (m : Nat) (ys : List Nat) (hm : m = n + news.length) (hys : ys = xs ++ news) (hlen : m ≤ 17592186044416) (hbase : base ≤ w.heap.size)
    (h : ∀ a' cap' w', w'.ownsRow base 53 1 (.slice a' m cap') m (ys.map F32) → Below base w w' → w.grownBy w' v.ownBlock → (Value.slice a' m cap' = .slice none 0 0 ↔ v = .slice none 0 0 ∧ news = []) → K (a.put o.dst (.slice a' m cap')) w') :
    o.wp Try.prog a w K Q := by
  obtain ⟨i0, hi, hz0, hz1, hz2⟩ := info_parts Try.infoF32
  subst hm hys
  have hk : ∀ v' w', w'.ownsRow base 53 1 v' (n + news.length) (xs.map F32 ++ news.map F32) → w.grownBy w' v.ownBlock → (v' = .slice none 0 0 ↔ v = .slice none 0 0 ∧ news = []) → K (a.put o.dst v') w' := by
    intro v' w' h1 h2 h3
    have h1' : w'.ownsRow base 53 1 v' (n + news.length) ((xs ++ news).map F32) := by simpa using h1
    obtain ⟨a', cap', rfl⟩ := owns_shape h1'
    exact h a' cap' w' h1' (below_grown hown hbase h2) h2 h3
  rcases hsv with ⟨rfl, hnil⟩ | ⟨ad, cap, rfl, hcl, hcm, hc⟩
  · have hn : news = [] := by simpa using hnil
    subst hn
    have hrun := run_append_owned_none (P := Try.prog) (w := w) base 51 o.type 53 i0 1 Try.underlying51 hi v n (xs.map F32) hown
    unfold Oper.wp
    simp [execOp, ho, resolve, invoke, builtin, hs, hx, hrun, Result.andThen]
    exact hk v w (by simpa using hown) (World.grownBy.refl _ _) (by simp)
  · refine wp_append_own w s x 51 ho base 53 i0 (.float .f32 0) 1 4 Try.underlying51 hi hz0 hz1 hz2 rfl (by decide) v n (xs.map F32) hs hown ad (news.map F32).length cap (news.map F32) hx (by simp) hc (f32_one news) (by simp [maxLen]; omega) (by simp; omega) hbase ?_
    intro v' w' h2 h3 h4
    exact hk v' w' (by simpa using h2) h3 (by rw [h4]; simp)

theorem step_app_flts {w : World} {ops : Array Oper} {o : Oper} {a : Act} {K : Act → World → Prop} {Q : Exit → Act → World → Prop} {E : Prop} (hgd : o.guard = none) (s x : Operand)
    (ho : o.op = .call { callee := .builtin .append, args := #[s, x], argTypes := #[51, 51] })
    (base : Nat) (v : Value) (n : Nat) (xs : List Nat) (hs : a.eval s = v) (hown : w.ownsRow base 53 1 v n (xs.map F32))
    (sv : Value) (news : List Nat) (hx : a.eval x = sv) (hsv : Slc w sv (news.map F32)) (m : Nat) (ys : List Nat) (hm : m = n + news.length) (hys : ys = xs ++ news) (hlen : m ≤ 17592186044416) (hbase : base ≤ w.heap.size)
    (h : ∀ a' cap' w', w'.ownsRow base 53 1 (.slice a' m cap') m (ys.map F32) → Below base w w' → w.grownBy w' v.ownBlock → K (a.put o.dst (.slice a' m cap')) w') :
    if Region.wanted o (yielded ops a.tmps) = true then Oper.wp Try.prog o a w K Q else E := by
  have hw : Region.wanted o (yielded ops a.tmps) = true := by simp [Region.wanted, hgd]
  rw [if_pos hw]
  exact wp_app_flts s x ho base v n xs hs hown sv news hx hsv m ys hm hys hlen hbase fun a' cap' w' h1 h2 h3 _ => h a' cap' w' h1 h2 h3

theorem slcF_one (w : World) (z : Nat) : Slc (w.alloc (.cells #[.float .f32 z] 53)) (.slice (some ⟨w.heap.size, 0, none⟩) 1 1) ([z].map F32) := by
  have h := World.ownsRow_lit (base := w.heap.size) (e := 53) (size := 1) w #[.float .f32 z] 1 (Nat.le_refl _) (by simp [maxLen]) rfl
  exact slc_of_owns h
theorem ownsF_empty (w : World) : (w.alloc (.cells #[] 53)).ownsRow w.heap.size 53 1 (.slice (some ⟨w.heap.size, 0, none⟩) 0 0) 0 (([] : List Nat).map F32) :=
  World.ownsRow_lit (base := w.heap.size) (e := 53) (size := 1) w #[] 0 (Nat.le_refl _) (by simp [maxLen]) rfl

set_option maxHeartbeats 400000 in
theorem copyF_any (v : Value) (xs : List Nat) (w : World) (h : RdF w v xs) (hb : xs.length ≤ 17592186044416) :
    Calls Try.prog 67 #[v] w fun e w' => ∃ v', e = .returned v' ∧ OwnF w.heap.size w'.heap.size w' v' xs ∧ Below w.heap.size w w' := by
  obtain ⟨a, cap, rfl⟩ := h.shape
  have hsl := (show Slc w _ (xs.map F32) from h).below (Below.alloc (Below.refl w.heap.size w) (Nat.le_refl _) (.cells #[] 53)) (Nat.le_refl _)
  have HS := Lib.hid h
  clear h
  go_enter Try.func67, Try.ntmps67
  go_wp2_with (at_builtin; refine app_flts rfl _ _ rfl w.heap.size (.slice (some ⟨w.heap.size, 0, none⟩) 0 0) 0 [] rfl (ownsF_empty w) _ xs rfl hsl xs.length xs (by simp) (by simp) hb (by simp) ?_; intro a2 cap' w1 hown hbl hg _)
  go_ret
  exact ⟨_, rfl, OwnF.mk hown, ((Below.refl _ _).alloc (Nat.le_refl _) _).trans hbl⟩

end Go.Proofs.Ytfdaifmfecfchaa

namespace Go.Proofs.Ytfdaifmfecfchaa
open Go.RowKit

/-- Cells that lie side by side. -/
def Cels (w : World) (b : Nat) (cs : Array Value) : Prop := ∀ (j : Nat) (u : Value), cs[j]? = some u → w.cell? ⟨b, j, none⟩ = some u
theorem Cels.cell {w : World} {b : Nat} {cs : Array Value} (h : Cels w b cs) (j : Nat) {u : Value} (hj : cs[j]? = some u) : w.cell? ⟨b, j, none⟩ = some u := h j u hj
theorem Blk.cels {w : World} {b : Nat} {t : TypeId} {cs : Array Value} (h : Blk w b t cs) : Cels w b cs := fun j _ hj => h.cell j hj

end Go.Proofs.Ytfdaifmfecfchaa

namespace Go.Proofs.Ytfdaifmfecfchaa
open Go.RowKit

/-- From 0 to a million. -/
def inR (x : Nat) : Bool := geq0 x && (FloatKind.f32.format.order x 1232348160 == some .lt || FloatKind.f32.format.order x 1232348160 == some .eq)
def toI (x : Nat) : Int := (floatToIntVal .f32 x .i64).getD 0

theorem read_mil : Ieee.single.read 1232348160 = .number false 16000000 (-4) := by decide +kernel
theorem read_zero : Ieee.single.read 0 = .number false 0 (-149) := by decide +kernel

theorem cmp_cases (a b : Int) : (compare a b = .lt ∧ a < b) ∨ (compare a b = .eq ∧ a = b) ∨ (compare a b = .gt ∧ b < a) := by
  simp only [compare, compareOfLessAndEq]
  by_cases h1 : a < b
  · rw [if_pos h1]; exact .inl ⟨rfl, h1⟩
  · rw [if_neg h1]
    by_cases h2 : a = b
    · rw [if_pos h2]; exact .inr (.inl ⟨rfl, h2⟩)
    · rw [if_neg h2]; exact .inr (.inr ⟨rfl, by omega⟩)
theorem cmp_gt {a b : Int} (h : compare a b = .gt) : b < a := by
  rcases cmp_cases a b with ⟨e, _⟩ | ⟨e, _⟩ | ⟨_, h2⟩
  · rw [e] at h; cases h
  · rw [e] at h; cases h
  · exact h2
theorem cmp_eq {a b : Int} (h : compare a b = .eq) : a = b := by
  rcases cmp_cases a b with ⟨e, _⟩ | ⟨_, h2⟩ | ⟨e, _⟩
  · rw [e] at h; cases h
  · exact h2
  · rw [e] at h; cases h
theorem cmp_lt {a b : Int} (h : compare a b = .lt) : a < b := by
  rcases cmp_cases a b with ⟨_, h2⟩ | ⟨e, _⟩ | ⟨e, _⟩
  · exact h2
  · rw [e] at h; cases h
  · rw [e] at h; cases h

theorem inR_number {x : Nat} (h : inR x = true) : ∃ s m e, Ieee.single.read x = .number s m e ∧ (s = true → m = 0) ∧ (0 ≤ e → m <<< (e + 4).toNat ≤ 16000000) := by
  unfold inR geq0 at h
  simp only [Bool.and_eq_true, Bool.or_eq_true, beq_iff_eq] at h
  obtain ⟨h1, h2⟩ := h
  have e1 : FloatKind.f32.format.order x 0 = (Ieee.single.read x).order (.number false 0 (-149)) := by show (Ieee.single.read x).order (Ieee.single.read 0) = _; rw [read_zero]
  have e2 : FloatKind.f32.format.order x 1232348160 = (Ieee.single.read x).order (.number false 16000000 (-4)) := by show (Ieee.single.read x).order (Ieee.single.read 1232348160) = _; rw [read_mil]
  rw [e1] at h1
  rw [e2] at h2
  cases hr : Ieee.single.read x with
  | nan a b => rw [hr] at h1; simp [Ieee.Datum.order] at h1
  | infinity s => rw [hr] at h1 h2; cases s <;> simp [Ieee.Datum.order] at h1 h2
  | number s m e =>
    rw [hr] at h1 h2
    refine ⟨s, m, e, rfl, ?_, ?_⟩
    · rintro rfl
      by_cases hm : m = 0
      · exact hm
      · exfalso
        simp only [Ieee.Datum.order, Option.some.injEq, Ieee.signed, Nat.zero_shiftLeft, if_true] at h1
        have hp : 0 < m <<< (e - min e (-149)).toNat := by rw [Nat.shiftLeft_eq]; exact Nat.mul_pos (by omega) (Nat.two_pow_pos _)
        generalize m <<< (e - min e (-149)).toNat = K at h1 hp
        have hlt : (-(K : Int)) < ((0 : Nat) : Int) := by omega
        rcases h1 with h1 | h1
        · have := cmp_gt h1; simp at this; omega
        · have := cmp_eq h1; simp at this; omega
    · intro he
      have hb : min e (-4) = -4 := by omega
      have hz : (e - -4).toNat = (e + 4).toNat := by omega
      simp only [Ieee.Datum.order, Option.some.injEq, hb, hz, Ieee.signed, Int.sub_self, Int.toNat_zero, Nat.shiftLeft_zero] at h2
      cases s with
      | true =>
        -- a negative number: its size is 0
        simp only [Ieee.Datum.order, Option.some.injEq, Ieee.signed, Nat.zero_shiftLeft, if_true] at h1
        have hm : m = 0 := by
          by_cases hm : m = 0
          · exact hm
          · exfalso
            have hp : 0 < m <<< (e - min e (-149)).toNat := by rw [Nat.shiftLeft_eq]; exact Nat.mul_pos (by omega) (Nat.two_pow_pos _)
            generalize m <<< (e - min e (-149)).toNat = K at h1 hp
            rcases h1 with h1 | h1
            · have := cmp_gt h1; simp at this; omega
            · have := cmp_eq h1; simp at this; omega
        subst hm; simp
      | false =>
        simp only [Bool.false_eq_true, if_false] at h2
        generalize m <<< (e + 4).toNat = K at h2 ⊢
        rcases h2 with h2 | h2
        · have := cmp_lt h2; omega
        · have := cmp_eq h2; omega

theorem inR_fin {x : Nat} (h : inR x = true) : fin32 x = true := by
  obtain ⟨s, m, e, hr, _⟩ := inR_number h
  unfold fin32; rw [hr]

theorem cut_zero (s : Bool) (n d : Nat) : Ieee.Toward.zero.cut s n d ≤ n := by
  unfold Ieee.Toward.cut
  simp only [Bool.toNat_false, Nat.add_zero]
  exact Nat.div_le_self _ _

theorem toI_some {x : Nat} (h : inR x = true) : floatToIntVal .f32 x .i64 = some (toI x) := by
  obtain ⟨s, m, e, hr, hs, hm⟩ := inR_number h
  have hb := read32_bound hr
  have key : ∃ z, floatToIntVal .f32 x .i64 = some z := by
    unfold floatToIntVal
    have e1 : FloatKind.f32.decode x = Ieee.single.read x := rfl
    rw [e1, hr]
    simp only [Ieee.Datum.toInt, Ieee.Datum.integral, Ieee.signed, Nat.shiftLeft_zero]
    have hcut : Ieee.Toward.zero.cut s (m <<< e.toNat) (-e).toNat ≤ 16777216 := by
      refine Nat.le_trans (cut_zero _ _ _) ?_
      by_cases he : 0 ≤ e
      · have h1 := hm he
        have h2 : m <<< e.toNat ≤ m <<< (e + 4).toNat := by
          rw [Nat.shiftLeft_eq, Nat.shiftLeft_eq]
          exact Nat.mul_le_mul_left _ (Nat.pow_le_pow_right (by decide) (by omega))
        omega
      · have : e.toNat = 0 := by omega
        rw [this, Nat.shiftLeft_zero]
        omega
    generalize Ieee.Toward.zero.cut s (m <<< e.toNat) (-e).toNat = K at hcut
    have c1 : IntKind.i64.min = -9223372036854775808 := rfl
    have c2 : IntKind.i64.max = 9223372036854775807 := rfl
    rw [c1, c2]
    refine ⟨_, if_pos ?_⟩
    cases s <;> simp <;> omega
  obtain ⟨z, hz⟩ := key
  unfold toI
  rw [hz]; rfl

structure OkP (r : RowsD) (x : List Nat) : Prop where
  v : ValR r
  l : (x.length : Int) = r.vars
  i : ∀ j, j < x.length → inR (x.getD j 0) = true
open Classical in
noncomputable def rpOk (r : RowsD) (x : List Nat) : Bool := decide (OkP r x)
open Classical in
noncomputable def rpL (r : RowsD) (x : List Nat) : List Int := if OkP r x then x.map toI else []
theorem rp_yes {r : RowsD} {x : List Nat} (h : OkP r x) : rpOk r x = true ∧ rpL r x = x.map toI := ⟨by simp [rpOk, h], if_pos h⟩
theorem rp_no {r : RowsD} {x : List Nat} (h : ¬ OkP r x) : rpOk r x = false ∧ rpL r x = [] := ⟨by simp [rpOk, h], if_neg h⟩
theorem rpL_cnt (r : RowsD) (x : List Nat) : cntI (rpL r x) ≤ 1048576 := by
  unfold cntI rpL
  split
  · next h =>
    have := h.l
    have := h.v.v8
    simp
    omega
  · simp
theorem map_take_succ {x : List Nat} {k : Nat} (hk : k < x.length) : (x.take (k + 1)).map toI = (x.take k).map toI ++ [toI (x.getD k 0)] := by
  rw [List.take_succ_eq_append_getElem hk, List.map_append, show x.getD k 0 = x[k] from by simp [hk]]; rfl

set_option maxHeartbeats 1000000 in
theorem isX_any (v : Value) (r : RowsD) (u : Value) (x : List Nat) (w : World) (h : RdR w v r) (hu : RdF w u x) :
    Calls Try.prog 86 #[v, u] w fun e w' => e = .returned (.bool (((x.length : Int) == r.vars) && allFin x)) ∧ Below w.heap.size w w' := by
  obtain ⟨a1, c1, a2, c2, a3, c3, rfl⟩ := h.shape
  obtain ⟨a, c, rfl⟩ := hu.shape
  obtain ⟨n0, x1, x2, x3⟩ := r
  have l1 := hu.len
  unfold maxLen at l1
  simp only
  have HU := Lib.hid hu
  clear h hu
  obtain ⟨q, hq⟩ : ∃ q, q = ((x.length : Int) == n0) := ⟨_, rfl⟩
  rw [← hq]
  cases q
  all_goals
    go_enter Try.func86, Try.ntmps86
    go_wp2_with fail
    refine wp_at fun W hW => ?_
    have HB := Lib.hid (show Below w.heap.size w W by subst hW; (repeat' first | exact Below.refl _ _ | assumption | refine Below.alloc ?_ ?_ _ | refine Below.setCell ?_ ?_ _ | refine Below.drew ?_ | (simp; done) | (simp; omega)))
    have HK := Lib.hid (show Blk W w.heap.size 61 #[.int .i64 n0, .slice a1 x1.length c1, .slice a2 x2.length c2, .slice a3 x3.length c3] by subst hW; exact Blk.new _ _ _)
    have HUW := Lib.hid (HU.out.up HB.out (Nat.le_refl _))
    have d0 : W.cell? ⟨w.heap.size, 0, none⟩ = some (.int .i64 n0) := HK.out.cell 0 rfl
    have hqb := hq.symm
    clear hW hq
    go_quiet (first
      | (go_at_call 47; exact quiet_same (size_any _ _ (by unfold maxLen; omega)))
      | (go_at_call 71; exact areFinite_qs _ x _ _ HUW.out))
    go_wp2_with fail
    go_ret
    exact ⟨rfl, below_drewN HB.out _⟩

theorem inR_geq {x : Nat} (h : inR x = true) : (FloatKind.f32.format.order x 0 == some .gt || FloatKind.f32.format.order x 0 == some .eq) = true := by
  unfold inR geq0 at h; simp only [Bool.and_eq_true] at h; exact h.1
theorem inR_leq {x : Nat} (h : inR x = true) : (FloatKind.f32.format.order x 1232348160 == some .lt || FloatKind.f32.format.order x 1232348160 == some .eq) = true := by
  unfold inR geq0 at h; simp only [Bool.and_eq_true] at h; exact h.2

end Go.Proofs.Ytfdaifmfecfchaa
