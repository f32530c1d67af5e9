/-
  FnSpans: texts joined: Fin, ValidR.
-/
import Derived.Test.YtkfiepiipigcmaaMFnSpansAC
namespace Go.Proofs.Ytkfiepiipigcmaa
open Go.RowKit

theorem drewN_one (w : World) : w.drew = w.drewN 1 := rfl
theorem ord00 : FloatKind.f32.format.order 0 0 = some .eq := by decide +kernel

theorem IsFinite_any (x : Nat) (w : World) : Calls Try.prog 93 #[.float .f32 x] w fun e w' => e = .returned (.bool (fin32 x)) ∧ ∃ m, w' = w.drewN m := by
  by_cases h : fin32 x = true
  · have hs := fun (W : World) => run_sub_some (P := Try.prog) 63 x x 0 (sub_fin h) W
    have h0 := ord00
    rw [h]
    clear h
    go_enter Try.func93, Try.ntmps93
    go_wp2_with fail
    go_ret
    exact ⟨rfl, 0, rfl⟩
  · rw [Bool.not_eq_true] at h
    have hs := fun (W : World) => run_sub_none (P := Try.prog) 63 x x (sub_not h) W
    have h0 := fun (W : World) => (show FloatKind.f32.format.order (tape32 (.nanBits .f32 x x) W) 0 = none from order_nanL _ _ _ (tape32_nan x x W))
    rw [h]
    clear h
    go_enter Try.func93, Try.ntmps93
    go_wp2_with fail
    go_ret
    exact ⟨rfl, 1, rfl⟩
theorem l01Finite_any (x : Nat) (w : World) : Calls Try.prog 115 #[.float .f32 x] w fun e w' => e = .returned (.bool (fin32 x)) ∧ ∃ m, w' = w.drewN m := by
  by_cases h : fin32 x = true
  · have hs := fun (W : World) => run_sub_some (P := Try.prog) 63 x x 0 (sub_fin h) W
    have h0 := ord00
    rw [h]
    clear h
    go_enter Try.func115, Try.ntmps115
    go_wp2_with fail
    go_ret
    exact ⟨rfl, 0, rfl⟩
  · rw [Bool.not_eq_true] at h
    have hs := fun (W : World) => run_sub_none (P := Try.prog) 63 x x (sub_not h) W
    have h0 := fun (W : World) => (show FloatKind.f32.format.order (tape32 (.nanBits .f32 x x) W) 0 = none from order_nanL _ _ _ (tape32_nan x x W))
    rw [h]
    clear h
    go_enter Try.func115, Try.ntmps115
    go_wp2_with fail
    go_ret
    exact ⟨rfl, 1, rfl⟩

def allFin (xs : List Nat) : Bool := xs.all fin32
theorem allFin_yes {xs : List Nat} (h : ∀ i, i < xs.length → fin32 (xs.getD i 0) = true) : allFin xs = true := by
  unfold allFin; rw [List.all_eq_true]
  intro x hx
  obtain ⟨i, hi, rfl⟩ := List.getElem_of_mem hx
  have := h i hi
  simpa [hi] using this
theorem allFin_no {xs : List Nat} {i : Nat} (hi : i < xs.length) (h : fin32 (xs.getD i 0) = false) : allFin xs = false := by
  unfold allFin; rw [List.all_eq_false]
  refine ⟨xs[i], List.getElem_mem hi, ?_⟩
  have : xs.getD i 0 = xs[i] := by simp [hi]
  rw [this] at h
  simp [h]
theorem allFin_get {xs : List Nat} (h : allFin xs = true) {i : Nat} (hi : i < xs.length) : fin32 (xs.getD i 0) = true := by
  unfold allFin at h
  rw [List.all_eq_true] at h
  have : xs.getD i 0 = xs[i] := by simp [hi]
  rw [this]
  exact h _ (List.getElem_mem hi)

theorem drewN_then {w a b : World} (h1 : ∃ m, a = w.drewN m) (h2 : ∃ m, b = a.drewN m) : ∃ m, b = w.drewN m := by
  obtain ⟨m, rfl⟩ := h1
  obtain ⟨n, rfl⟩ := h2
  exact ⟨m + n, World.drewN_drewN _ _ _⟩
theorem rdF_drew {w a : World} {v : Value} {xs : List Nat} (h : RdF w v xs) (hd : ∃ m, a = w.drewN m) : RdF a v xs := by
  obtain ⟨m, rfl⟩ := hd
  exact h.drewN m

set_option maxHeartbeats 400000 in
theorem areFinite_any (v : Value) (xs : List Nat) (w : World) (h : RdF w v xs) :
    Calls Try.prog 153 #[v] w fun e w' => e = .returned (.bool (allFin xs)) ∧ ∃ m, w' = w.drewN m := by
  obtain ⟨a, c, rfl⟩ := h.shape
  have hl := h.len
  unfold maxLen at hl
  have HS := Lib.hid h
  clear h
  go_enter Try.func153, Try.ntmps153
  go_wp2_with fail
  go_loopw [7] (fun i wr => ∃ k : Nat, i = .int .i64 k ∧ k ≤ xs.length ∧ Hid (∀ j, j < k → fin32 (xs.getD j 0) = true) ∧ Hid (∃ m, wr = w.drewN m)) (fun i _ => xs.length - (intOf i).toNat)
  case atStart => exact ⟨0, rfl, Nat.zero_le _, fun j hj => by omega, 0, rfl⟩
  case round =>
    obtain ⟨k, rfl, hk, hall, hd⟩ := hrel
    by_cases hlt : k < xs.length
    · obtain ⟨b, off, rfl, _, hc⟩ := (rdF_drew HS.out hd.out).at hlt
      obtain ⟨x, hx⟩ : ∃ x, x = xs.getD k 0 := ⟨_, rfl⟩
      rw [← hx] at hc
      have HX := Lib.hid hx
      clear hx
      go_wp2_with fail
      refine (IsFinite_any x wr).mono ?_
      rintro e w1 ⟨rfl, hd1⟩
      have HD := Lib.hid (drewN_then hd.out hd1)
      clear hd1 hc
      by_cases hf : fin32 x = true
      · rw [hf]
        go_wp2_with fail
        go_roundw
        case rel => exact ⟨k + 1, by go_num, by omega, fun j hj => by
          rcases Nat.lt_succ_iff_lt_or_eq.1 hj with h | rfl
          · exact hall.out j h
          · rw [← HX.out]; exact hf, HD.out⟩
        case measure => simp [intOf]; omega
      · rw [Bool.not_eq_true] at hf
        rw [hf]
        have HF := Lib.hid (allFin_no hlt (by rw [← HX.out]; exact hf))
        go_wp2_with fail
        go_ret
        exact ⟨by rw [HF.out]; rfl, HD.out⟩
    · obtain rfl : k = xs.length := by omega
      go_wp2_with fail
      go_ret
      exact ⟨by rw [allFin_yes hall.out]; rfl, hd.out⟩

set_option maxHeartbeats 400000 in
theorem l02Finite_any (v : Value) (xs : List Nat) (w : World) (h : RdF w v xs) :
    Calls Try.prog 139 #[v] w fun e w' => e = .returned (.bool (allFin xs)) ∧ ∃ m, w' = w.drewN m := by
  obtain ⟨a, c, rfl⟩ := h.shape
  have hl := h.len
  unfold maxLen at hl
  have HS := Lib.hid h
  clear h
  go_enter Try.func139, Try.ntmps139
  go_wp2_with fail
  go_loopw [3] (fun i wr => ∃ k : Nat, i = .int .i64 k ∧ k ≤ xs.length ∧ Hid (∀ j, j < k → fin32 (xs.getD j 0) = true) ∧ Hid (∃ m, wr = w.drewN m)) (fun i _ => xs.length - (intOf i).toNat)
  case atStart => exact ⟨0, rfl, Nat.zero_le _, fun j hj => by omega, 0, rfl⟩
  case round =>
    obtain ⟨k, rfl, hk, hall, hd⟩ := hrel
    by_cases hlt : k < xs.length
    · obtain ⟨b, off, rfl, _, hc⟩ := (rdF_drew HS.out hd.out).at hlt
      obtain ⟨x, hx⟩ : ∃ x, x = xs.getD k 0 := ⟨_, rfl⟩
      rw [← hx] at hc
      have HX := Lib.hid hx
      clear hx
      go_wp2_with fail
      refine (l01Finite_any x wr).mono ?_
      rintro e w1 ⟨rfl, hd1⟩
      have HD := Lib.hid (drewN_then hd.out hd1)
      clear hd1 hc
      by_cases hf : fin32 x = true
      · rw [hf]
        go_wp2_with fail
        go_roundw
        case rel => exact ⟨k + 1, by go_num, by omega, fun j hj => by
          rcases Nat.lt_succ_iff_lt_or_eq.1 hj with h | rfl
          · exact hall.out j h
          · rw [← HX.out]; exact hf, HD.out⟩
        case measure => simp [intOf]; omega
      · rw [Bool.not_eq_true] at hf
        rw [hf]
        have HF := Lib.hid (allFin_no hlt (by rw [← HX.out]; exact hf))
        go_wp2_with fail
        go_ret
        exact ⟨by rw [HF.out]; rfl, HD.out⟩
    · obtain rfl : k = xs.length := by omega
      go_wp2_with fail
      go_ret
      exact ⟨by rw [allFin_yes hall.out]; rfl, hd.out⟩

theorem areFinite_qs (v : Value) (xs : List Nat) (w : World) (n : Nat) (h : RdF w v xs) :
    Calls Try.prog 153 #[v] (w.drewN n) fun e w'' => e = .returned (.bool (allFin xs)) ∧ ∃ m, w'' = w.drewN m := by
  refine (areFinite_any v xs _ (h.drewN n)).mono ?_
  rintro e w' ⟨rfl, hd⟩
  exact ⟨rfl, drewN_then ⟨n, rfl⟩ hd⟩

/-- At least nothing. -/
def geq0 (x : Nat) : Bool := FloatKind.f32.format.order x 0 == some .gt || FloatKind.f32.format.order x 0 == some .eq
def least (x : Nat) : Bool := fin32 x && geq0 x
theorem lt_geq {x : Nat} (h : fin32 x = true) : (FloatKind.f32.format.order x 0 == some .lt) = !geq0 x := by
  unfold geq0
  have e : ∃ o, FloatKind.f32.format.order x 0 = some o := by
    unfold fin32 at h
    show ∃ o, Ieee.Format.order Ieee.single x 0 = some o
    unfold Ieee.Format.order
    have e0 : Ieee.single.read 0 = .number false 0 (-149) := by decide +kernel
    rw [e0]
    cases hr : Ieee.single.read x with
    | nan a b => rw [hr] at h; simp at h
    | infinity s => rw [hr] at h; simp at h
    | number s m e => exact ⟨_, rfl⟩
  obtain ⟨o, ho⟩ := e
  rw [ho]
  cases o <;> rfl

theorem l02Least_any (x : Nat) (w : World) : Calls Try.prog 140 #[.float .f32 x] w fun e w' => e = .returned (.bool (least x)) ∧ ∃ m, w' = w.drewN m := by
  by_cases h : fin32 x = true
  · have hg : least x = geq0 x := by unfold least; rw [h]; rfl
    have HG := Lib.hid hg
    have H := Lib.hid h
    clear hg h
    go_enter Try.func140, Try.ntmps140
    go_wp2_with fail
    refine (l01Finite_any x w).mono ?_
    rintro e w1 ⟨rfl, hd1⟩
    rw [H.out]
    go_wp2_with fail
    go_ret
    exact ⟨by rw [HG.out]; rfl, hd1⟩
  · rw [Bool.not_eq_true] at h
    have HG := Lib.hid (show least x = false by unfold least; rw [h]; rfl)
    have H := Lib.hid h
    clear h
    go_enter Try.func140, Try.ntmps140
    go_wp2_with fail
    refine (l01Finite_any x w).mono ?_
    rintro e w1 ⟨rfl, hd1⟩
    rw [H.out]
    go_wp2_with fail
    go_ret
    exact ⟨by rw [HG.out]; rfl, hd1⟩

end Go.Proofs.Ytkfiepiipigcmaa

namespace Go.Proofs.Ytkfiepiipigcmaa
open Go.RowKit

structure ValR (r : RowsD) : Prop where
  v1 : 1 ≤ r.vars
  v8 : r.vars ≤ 8
  b1 : 1 ≤ r.bnds.length
  b8 : r.bnds.length ≤ 8
  gl : (r.gains.length : Int) = r.vars
  nl : (r.nums.length : Int) = r.vars * r.bnds.length
  fn : allFin r.nums = true
  fg : allFin r.gains = true
  lb : ∀ i, i < r.bnds.length → least (r.bnds.getD i 0) = true
open Classical in
noncomputable def validR (r : RowsD) : Bool := decide (ValR r)
theorem validR_true {r : RowsD} (h : ValR r) : validR r = true := by simp [validR, h]
theorem validR_false {r : RowsD} (h : ¬ ValR r) : validR r = false := by simp [validR, h]
theorem validR_iff {r : RowsD} : validR r = true ↔ ValR r := by simp [validR]
theorem least_fin {x : Nat} (h : least x = true) : fin32 x = true := by
  unfold least at h; simp only [Bool.and_eq_true] at h; exact h.1

theorem lt_of_least {x : Nat} (h : least x = true) : (FloatKind.f32.format.order x 0 == some .lt) = false := by
  rw [lt_geq (least_fin h)]
  unfold least at h; simp only [Bool.and_eq_true] at h
  simp [h.2]
theorem least_of {x : Nat} (hf : fin32 x = true) (h : (FloatKind.f32.format.order x 0 == some .lt) = false) : least x = true := by
  rw [lt_geq hf] at h
  unfold least
  simp at h
  simp [hf, h]
theorem mulR {n0 : Int} {k : Nat} (h1 : 1 ≤ n0) (h8 : n0 ≤ 8) (hk : k ≤ 8) : 0 ≤ n0 * (k : Int) ∧ n0 * (k : Int) ≤ 64 := by
  constructor
  · exact Int.mul_nonneg (by omega) (by omega)
  · have : n0 * (k : Int) ≤ 8 * 8 := Int.mul_le_mul h8 (by omega) (by omega) (by decide)
    omega

set_option maxHeartbeats 4000000 in
set_option maxRecDepth 4000 in
theorem VR_hA (n0 : Int) (x1 x2 x3 : List Nat) (a1 a2 a3 : Option Addr) (c1 c2 c3 : Nat) (w : World) (P1 : Hid (RdF w (.slice a1 x1.length c1) x1)) (P2 : Hid (RdF w (.slice a2 x2.length c2) x2)) (P3 : Hid (RdF w (.slice a3 x3.length c3) x3)) (l1 : x1.length ≤ 9223372036854775807) (l2 : x2.length ≤ 9223372036854775807) (l3 : x3.length ≤ 9223372036854775807)
    (hA : ¬ (1 ≤ n0 ∧ n0 ≤ 8)) :
    Calls Try.prog 119 #[.agg #[.int .i64 n0, .slice a1 x1.length c1, .slice a2 x2.length c2, .slice a3 x3.length c3]] w fun e w' => e = .returned (.bool (validR ⟨n0, x1, x2, x3⟩)) ∧ Below w.heap.size w w' := by
    have hin := inB_false (lo := 1) (hi := 8) (n := n0) hA
    have HNO := Lib.hid (validR_false (r := ⟨n0, x1, x2, x3⟩) (fun h => hA ⟨h.v1, h.v8⟩))
    clear hA
    go_enter Try.func119, Try.ntmps119
    go_wp2_with fail
    refine wp_at fun W hW => ?_
    have HB := Lib.hid (show Below w.heap.size w W by subst hW; (repeat' first | exact Below.refl _ _ | assumption | refine Below.alloc ?_ ?_ _ | refine Below.setCell ?_ ?_ _ | refine Below.drew ?_ | (simp; done) | (simp; omega)))
    have HK := Lib.hid (show Blk W w.heap.size 67 #[.int .i64 n0, .slice a1 x1.length c1, .slice a2 x2.length c2, .slice a3 x3.length c3] by subst hW; exact Blk.new _ _ _)
    clear hW
    have d0 : W.cell? ⟨w.heap.size, 0, none⟩ = some (.int .i64 n0) := HK.out.cell 0 rfl
    have d1 : W.cell? ⟨w.heap.size, 1, none⟩ = some (.slice a1 x1.length c1) := HK.out.cell 1 rfl
    have d2 : W.cell? ⟨w.heap.size, 2, none⟩ = some (.slice a2 x2.length c2) := HK.out.cell 2 rfl
    have d3 : W.cell? ⟨w.heap.size, 3, none⟩ = some (.slice a3 x3.length c3) := HK.out.cell 3 rfl
    go_quiet (first
      | (go_at_call 64; exact quiet_same (size_any _ _ (by unfold maxLen; omega)))
      | (go_at_call 65; exact quiet_same (within_any _ _ _ _)))
    go_wp2_with fail
    go_ret
    exact ⟨by rw [HNO.out]; rfl, below_drewN HB.out _⟩

set_option maxHeartbeats 4000000 in
set_option maxRecDepth 4000 in
theorem VR_hB (n0 : Int) (x1 x2 x3 : List Nat) (a1 a2 a3 : Option Addr) (c1 c2 c3 : Nat) (w : World) (P1 : Hid (RdF w (.slice a1 x1.length c1) x1)) (P2 : Hid (RdF w (.slice a2 x2.length c2) x2)) (P3 : Hid (RdF w (.slice a3 x3.length c3) x3)) (l1 : x1.length ≤ 9223372036854775807) (l2 : x2.length ≤ 9223372036854775807) (l3 : x3.length ≤ 9223372036854775807)
    (hA : 1 ≤ n0 ∧ n0 ≤ 8) (hB : ¬ (1 ≤ x2.length ∧ x2.length ≤ 8)) :
    Calls Try.prog 119 #[.agg #[.int .i64 n0, .slice a1 x1.length c1, .slice a2 x2.length c2, .slice a3 x3.length c3]] w fun e w' => e = .returned (.bool (validR ⟨n0, x1, x2, x3⟩)) ∧ Below w.heap.size w w' := by
    have hin := inB_true (lo := 1) (hi := 8) (n := n0) hA
    have hin2 := inB_false (lo := 1) (hi := 8) (n := (x2.length : Int)) (by omega)
    have HNO := Lib.hid (validR_false (r := ⟨n0, x1, x2, x3⟩) (fun h => hB ⟨h.b1, h.b8⟩))
    clear hA hB
    go_enter Try.func119, Try.ntmps119
    go_wp2_with fail
    refine wp_at fun W hW => ?_
    have HB := Lib.hid (show Below w.heap.size w W by subst hW; (repeat' first | exact Below.refl _ _ | assumption | refine Below.alloc ?_ ?_ _ | refine Below.setCell ?_ ?_ _ | refine Below.drew ?_ | (simp; done) | (simp; omega)))
    have HK := Lib.hid (show Blk W w.heap.size 67 #[.int .i64 n0, .slice a1 x1.length c1, .slice a2 x2.length c2, .slice a3 x3.length c3] by subst hW; exact Blk.new _ _ _)
    clear hW
    have d0 : W.cell? ⟨w.heap.size, 0, none⟩ = some (.int .i64 n0) := HK.out.cell 0 rfl
    have d1 : W.cell? ⟨w.heap.size, 1, none⟩ = some (.slice a1 x1.length c1) := HK.out.cell 1 rfl
    have d2 : W.cell? ⟨w.heap.size, 2, none⟩ = some (.slice a2 x2.length c2) := HK.out.cell 2 rfl
    have d3 : W.cell? ⟨w.heap.size, 3, none⟩ = some (.slice a3 x3.length c3) := HK.out.cell 3 rfl
    go_quiet (first
      | (go_at_call 64; exact quiet_same (size_any _ _ (by unfold maxLen; omega)))
      | (go_at_call 65; exact quiet_same (within_any _ _ _ _)))
    go_wp2_with fail
    go_ret
    exact ⟨by rw [HNO.out]; rfl, below_drewN HB.out _⟩

set_option maxHeartbeats 4000000 in
set_option maxRecDepth 4000 in
theorem VR_hC (n0 : Int) (x1 x2 x3 : List Nat) (a1 a2 a3 : Option Addr) (c1 c2 c3 : Nat) (w : World) (P1 : Hid (RdF w (.slice a1 x1.length c1) x1)) (P2 : Hid (RdF w (.slice a2 x2.length c2) x2)) (P3 : Hid (RdF w (.slice a3 x3.length c3) x3)) (l1 : x1.length ≤ 9223372036854775807) (l2 : x2.length ≤ 9223372036854775807) (l3 : x3.length ≤ 9223372036854775807)
    (hA : 1 ≤ n0 ∧ n0 ≤ 8) (hB : 1 ≤ x2.length ∧ x2.length ≤ 8) (hC : ¬ ((x3.length : Int) = n0)) :
    Calls Try.prog 119 #[.agg #[.int .i64 n0, .slice a1 x1.length c1, .slice a2 x2.length c2, .slice a3 x3.length c3]] w fun e w' => e = .returned (.bool (validR ⟨n0, x1, x2, x3⟩)) ∧ Below w.heap.size w w' := by
    have hin := inB_true (lo := 1) (hi := 8) (n := n0) hA
    have hin2 := inB_true (lo := 1) (hi := 8) (n := (x2.length : Int)) (by omega)
    have hcb : ((x3.length : Int) != n0) = true := by simp [hC]
    have HNO := Lib.hid (validR_false (r := ⟨n0, x1, x2, x3⟩) (fun h => hC h.gl))
    clear hA hC
    go_enter Try.func119, Try.ntmps119
    go_wp2_with fail
    refine wp_at fun W hW => ?_
    have HB := Lib.hid (show Below w.heap.size w W by subst hW; (repeat' first | exact Below.refl _ _ | assumption | refine Below.alloc ?_ ?_ _ | refine Below.setCell ?_ ?_ _ | refine Below.drew ?_ | (simp; done) | (simp; omega)))
    have HK := Lib.hid (show Blk W w.heap.size 67 #[.int .i64 n0, .slice a1 x1.length c1, .slice a2 x2.length c2, .slice a3 x3.length c3] by subst hW; exact Blk.new _ _ _)
    clear hW
    have d0 : W.cell? ⟨w.heap.size, 0, none⟩ = some (.int .i64 n0) := HK.out.cell 0 rfl
    have d1 : W.cell? ⟨w.heap.size, 1, none⟩ = some (.slice a1 x1.length c1) := HK.out.cell 1 rfl
    have d2 : W.cell? ⟨w.heap.size, 2, none⟩ = some (.slice a2 x2.length c2) := HK.out.cell 2 rfl
    have d3 : W.cell? ⟨w.heap.size, 3, none⟩ = some (.slice a3 x3.length c3) := HK.out.cell 3 rfl
    go_quiet (first
      | (go_at_call 64; exact quiet_same (size_any _ _ (by unfold maxLen; omega)))
      | (go_at_call 65; exact quiet_same (within_any _ _ _ _)))
    go_wp2_with fail
    go_ret
    exact ⟨by rw [HNO.out]; rfl, below_drewN HB.out _⟩

set_option maxHeartbeats 4000000 in
set_option maxRecDepth 4000 in
theorem VR_hD (n0 : Int) (x1 x2 x3 : List Nat) (a1 a2 a3 : Option Addr) (c1 c2 c3 : Nat) (w : World) (P1 : Hid (RdF w (.slice a1 x1.length c1) x1)) (P2 : Hid (RdF w (.slice a2 x2.length c2) x2)) (P3 : Hid (RdF w (.slice a3 x3.length c3) x3)) (l1 : x1.length ≤ 9223372036854775807) (l2 : x2.length ≤ 9223372036854775807) (l3 : x3.length ≤ 9223372036854775807)
    (hA : 1 ≤ n0 ∧ n0 ≤ 8) (hB : 1 ≤ x2.length ∧ x2.length ≤ 8) (hC : (x3.length : Int) = n0) (hD : ¬ ((x1.length : Int) = n0 * x2.length)) :
    Calls Try.prog 119 #[.agg #[.int .i64 n0, .slice a1 x1.length c1, .slice a2 x2.length c2, .slice a3 x3.length c3]] w fun e w' => e = .returned (.bool (validR ⟨n0, x1, x2, x3⟩)) ∧ Below w.heap.size w w' := by
    have hin := inB_true (lo := 1) (hi := 8) (n := n0) hA
    have hin2 := inB_true (lo := 1) (hi := 8) (n := (x2.length : Int)) (by omega)
    have hcb : ((x3.length : Int) != n0) = false := by simp [hC]
    obtain ⟨M, hM⟩ : ∃ M : Int, M = n0 * x2.length := ⟨_, rfl⟩
    have hM0 : 0 ≤ M ∧ M ≤ 64 := by have := mulR hA.1 hA.2 hB.2; omega
    have hmul : IntKind.i64.wrap (n0 * (x2.length : Int)) = M := by rw [IntWalk.i64_in _ (by omega), hM]
    have hdb : ((x1.length : Int) != M) = true := by rw [hM]; simp [hD]
    have HM := Lib.hid hM
    clear hM
    have HNO := Lib.hid (validR_false (r := ⟨n0, x1, x2, x3⟩) (fun h => hD h.nl))
    clear hA hC hD
    go_enter Try.func119, Try.ntmps119
    go_wp2_with fail
    refine wp_at fun W hW => ?_
    have HB := Lib.hid (show Below w.heap.size w W by subst hW; (repeat' first | exact Below.refl _ _ | assumption | refine Below.alloc ?_ ?_ _ | refine Below.setCell ?_ ?_ _ | refine Below.drew ?_ | (simp; done) | (simp; omega)))
    have HK := Lib.hid (show Blk W w.heap.size 67 #[.int .i64 n0, .slice a1 x1.length c1, .slice a2 x2.length c2, .slice a3 x3.length c3] by subst hW; exact Blk.new _ _ _)
    clear hW
    have d0 : W.cell? ⟨w.heap.size, 0, none⟩ = some (.int .i64 n0) := HK.out.cell 0 rfl
    have d1 : W.cell? ⟨w.heap.size, 1, none⟩ = some (.slice a1 x1.length c1) := HK.out.cell 1 rfl
    have d2 : W.cell? ⟨w.heap.size, 2, none⟩ = some (.slice a2 x2.length c2) := HK.out.cell 2 rfl
    have d3 : W.cell? ⟨w.heap.size, 3, none⟩ = some (.slice a3 x3.length c3) := HK.out.cell 3 rfl
    go_quiet (first
      | (go_at_call 64; exact quiet_same (size_any _ _ (by unfold maxLen; omega)))
      | (go_at_call 65; exact quiet_same (within_any _ _ _ _)))
    go_wp2_with fail
    go_ret
    exact ⟨by rw [HNO.out]; rfl, below_drewN HB.out _⟩

set_option maxHeartbeats 4000000 in
set_option maxRecDepth 4000 in
theorem VR_yes (n0 : Int) (x1 x2 x3 : List Nat) (a1 a2 a3 : Option Addr) (c1 c2 c3 : Nat) (w : World) (P1 : Hid (RdF w (.slice a1 x1.length c1) x1)) (P2 : Hid (RdF w (.slice a2 x2.length c2) x2)) (P3 : Hid (RdF w (.slice a3 x3.length c3) x3)) (l1 : x1.length ≤ 9223372036854775807) (l2 : x2.length ≤ 9223372036854775807) (l3 : x3.length ≤ 9223372036854775807)
    (hA : 1 ≤ n0 ∧ n0 ≤ 8) (hB : 1 ≤ x2.length ∧ x2.length ≤ 8) (hC : (x3.length : Int) = n0) (hD : (x1.length : Int) = n0 * x2.length)  :
    Calls Try.prog 119 #[.agg #[.int .i64 n0, .slice a1 x1.length c1, .slice a2 x2.length c2, .slice a3 x3.length c3]] w fun e w' => e = .returned (.bool (validR ⟨n0, x1, x2, x3⟩)) ∧ Below w.heap.size w w' := by
  have hin := inB_true (lo := 1) (hi := 8) (n := n0) hA
  have hin2 := inB_true (lo := 1) (hi := 8) (n := (x2.length : Int)) (by omega)
  have hcb : ((x3.length : Int) != n0) = false := by simp [hC]
  obtain ⟨M, hM⟩ : ∃ M : Int, M = n0 * x2.length := ⟨_, rfl⟩
  have hM0 : 0 ≤ M ∧ M ≤ 64 := by have := mulR hA.1 hA.2 hB.2; omega
  have hmul : IntKind.i64.wrap (n0 * (x2.length : Int)) = M := by rw [IntWalk.i64_in _ (by omega), hM]
  have hdb : ((x1.length : Int) != M) = false := by rw [hM]; simp [hD]
  have HM := Lib.hid hM
  clear hM
  have HC := Lib.hid hC
  have HD := Lib.hid hD
  have HA := Lib.hid hA
  have HBB := Lib.hid hB
  clear hA hC hD
  go_enter Try.func119, Try.ntmps119
  go_wp2_with fail
  refine wp_at fun W hW => ?_
  have HB := Lib.hid (show Below w.heap.size w W by subst hW; (repeat' first | exact Below.refl _ _ | assumption | refine Below.alloc ?_ ?_ _ | refine Below.setCell ?_ ?_ _ | refine Below.drew ?_ | (simp; done) | (simp; omega)))
  have HK := Lib.hid (show Blk W w.heap.size 67 #[.int .i64 n0, .slice a1 x1.length c1, .slice a2 x2.length c2, .slice a3 x3.length c3] by subst hW; exact Blk.new _ _ _)
  clear hW
  have d0 : W.cell? ⟨w.heap.size, 0, none⟩ = some (.int .i64 n0) := HK.out.cell 0 rfl
  have d1 : W.cell? ⟨w.heap.size, 1, none⟩ = some (.slice a1 x1.length c1) := HK.out.cell 1 rfl
  have d2 : W.cell? ⟨w.heap.size, 2, none⟩ = some (.slice a2 x2.length c2) := HK.out.cell 2 rfl
  have d3 : W.cell? ⟨w.heap.size, 3, none⟩ = some (.slice a3 x3.length c3) := HK.out.cell 3 rfl
  go_quiet (first
    | (go_at_call 64; exact quiet_same (size_any _ _ (by unfold maxLen; omega)))
    | (go_at_call 65; exact quiet_same (within_any _ _ _ _)))
  obtain ⟨W2, hW2⟩ : ∃ W2, W2 = W.drewN nq := ⟨_, rfl⟩
  rw [← hW2]
  have HB2 := Lib.hid (show Below w.heap.size w W2 by subst hW2; exact below_drewN HB.out _)
  have HK2 := Lib.hid (show Blk W2 w.heap.size 67 #[.int .i64 n0, .slice a1 x1.length c1, .slice a2 x2.length c2, .slice a3 x3.length c3] by subst hW2; exact HK.out)
  clear hW2 d0 d1 d2 d3
  have d2 : W2.cell? ⟨w.heap.size, 2, none⟩ = some (.slice a2 x2.length c2) := HK2.out.cell 2 rfl
  go_wp2_with fail
  go_loopw [43] (fun i wr => ∃ k : Nat, i = .int .i64 k ∧ k ≤ x2.length ∧ Hid (∀ j, j < k → (FloatKind.f32.format.order (x2.getD j 0) 0 == some .lt) = false) ∧ wr = W2) (fun i _ => x2.length - (intOf i).toNat)
  case atStart => exact ⟨0, rfl, Nat.zero_le _, fun j hj => by omega, rfl⟩
  case round =>
    obtain ⟨k, rfl, hk, hall, rfl⟩ := hrel
    by_cases hlt : k < x2.length
    · obtain ⟨b, off, rfl, _, hc⟩ := (P2.out.up HB2.out (Nat.le_refl _)).at hlt
      obtain ⟨x, hx⟩ : ∃ x, x = x2.getD k 0 := ⟨_, rfl⟩
      rw [← hx] at hc
      have HX := Lib.hid hx
      clear hx
      by_cases hq : (FloatKind.f32.format.order x 0 == some .lt) = true
      · have HNO := Lib.hid (validR_false (r := ⟨n0, x1, x2, x3⟩) (fun h => by
          have h1 := lt_of_least (h.lb k hlt)
          simp only at h1
          rw [← HX.out, hq] at h1
          cases h1))
        go_wp2_with fail
        go_ret
        exact ⟨by rw [HNO.out]; rfl, HB2.out⟩
      · rw [Bool.not_eq_true] at hq
        go_wp2_with fail
        go_roundw
        case rel => exact ⟨k + 1, by go_num, by omega, fun j hj => by
          rcases Nat.lt_succ_iff_lt_or_eq.1 hj with h | rfl
          · exact hall.out j h
          · rw [← HX.out]; exact hq, by first | trivial | rfl⟩
        case measure => simp [intOf]; omega
    · obtain rfl : k = x2.length := by omega
      go_wp2_with fail
      refine (areFinite_any _ x2 _ (P2.out.up HB2.out (Nat.le_refl _))).mono ?_
      rintro e w1 ⟨rfl, hd1⟩
      have HB3 := Lib.hid (show Below w.heap.size w w1 by obtain ⟨m, rfl⟩ := hd1; exact below_drewN HB2.out _)
      have HK3 := Lib.hid (show Blk w1 w.heap.size 67 #[.int .i64 n0, .slice a1 x1.length c1, .slice a2 x2.length c2, .slice a3 x3.length c3] by obtain ⟨m, rfl⟩ := hd1; exact HK2.out)
      clear hd1
      by_cases hf2 : allFin x2 = true
      case neg =>
        rw [Bool.not_eq_true] at hf2
        have HNO := Lib.hid (validR_false (r := ⟨n0, x1, x2, x3⟩) (fun h => by
          have : allFin x2 = true := allFin_yes fun i hi => least_fin (h.lb i hi)
          rw [hf2] at this; cases this))
        rw [hf2]
        go_wp2_with fail
        go_ret
        exact ⟨by rw [HNO.out]; rfl, HB3.out⟩
      rw [hf2]
      have HF2 := Lib.hid hf2
      clear hf2
      have d3 : w1.cell? ⟨w.heap.size, 3, none⟩ = some (.slice a3 x3.length c3) := HK3.out.cell 3 rfl
      go_wp2_with fail
      refine (areFinite_any _ x3 _ (P3.out.up HB3.out (Nat.le_refl _))).mono ?_
      rintro e w2 ⟨rfl, hd1⟩
      have HB4 := Lib.hid (show Below w.heap.size w w2 by obtain ⟨m, rfl⟩ := hd1; exact below_drewN HB3.out _)
      have HK4 := Lib.hid (show Blk w2 w.heap.size 67 #[.int .i64 n0, .slice a1 x1.length c1, .slice a2 x2.length c2, .slice a3 x3.length c3] by obtain ⟨m, rfl⟩ := hd1; exact HK3.out)
      clear hd1 d3
      by_cases hf3 : allFin x3 = true
      case neg =>
        rw [Bool.not_eq_true] at hf3
        have HNO := Lib.hid (validR_false (r := ⟨n0, x1, x2, x3⟩) (fun h => by
          have := h.fg
          simp only at this
          rw [hf3] at this; cases this))
        rw [hf3]
        go_wp2_with fail
        go_ret
        exact ⟨by rw [HNO.out]; rfl, HB4.out⟩
      rw [hf3]
      have HF3 := Lib.hid hf3
      clear hf3
      have d1 : w2.cell? ⟨w.heap.size, 1, none⟩ = some (.slice a1 x1.length c1) := HK4.out.cell 1 rfl
      go_wp2_with fail
      refine (areFinite_any _ x1 _ (P1.out.up HB4.out (Nat.le_refl _))).mono ?_
      rintro e w3 ⟨rfl, hd1⟩
      have HB5 := Lib.hid (show Below w.heap.size w w3 by obtain ⟨m, rfl⟩ := hd1; exact below_drewN HB4.out _)
      clear hd1 d1
      have HV : Hid (validR ⟨n0, x1, x2, x3⟩ = allFin x1) := by
        show validR _ = allFin x1
        by_cases hf1 : allFin x1 = true
        · rw [hf1]
          exact validR_true ⟨HA.out.1, HA.out.2, HBB.out.1, HBB.out.2, HC.out, HD.out, hf1, HF3.out, fun i hi => least_of (allFin_get HF2.out hi) (hall.out i hi)⟩
        · rw [Bool.not_eq_true] at hf1
          rw [hf1]
          exact validR_false (fun h => by have := h.fn; simp only at this; rw [hf1] at this; cases this)
      go_wp2_with fail
      go_ret
      exact ⟨by rw [HV.out]; rfl, HB5.out⟩

set_option maxHeartbeats 4000000 in
set_option maxRecDepth 4000 in
theorem ValidRows_any (v : Value) (r : RowsD) (w : World) (h : RdR w v r) :
    Calls Try.prog 119 #[v] w fun e w' => e = .returned (.bool (validR r)) ∧ Below w.heap.size w w' := by
  obtain ⟨a1, c1, a2, c2, a3, c3, rfl⟩ := h.shape
  obtain ⟨p1, p2, p3⟩ := h.parts
  obtain ⟨n0, x1, x2, x3⟩ := r
  simp only at p1 p2 p3 ⊢
  have l1 := p1.len
  have l2 := p2.len
  have l3 := p3.len
  unfold maxLen at l1 l2 l3
  have P1 := Lib.hid p1
  have P2 := Lib.hid p2
  have P3 := Lib.hid p3
  clear h p1 p2 p3
  by_cases hA : 1 ≤ n0 ∧ n0 ≤ 8
  case neg => exact VR_hA n0 x1 x2 x3 a1 a2 a3 c1 c2 c3 w P1 P2 P3 (by omega) (by omega) (by omega) hA
  by_cases hB : 1 ≤ x2.length ∧ x2.length ≤ 8
  case neg => exact VR_hB n0 x1 x2 x3 a1 a2 a3 c1 c2 c3 w P1 P2 P3 (by omega) (by omega) (by omega) hA hB
  by_cases hC : (x3.length : Int) = n0
  case neg => exact VR_hC n0 x1 x2 x3 a1 a2 a3 c1 c2 c3 w P1 P2 P3 (by omega) (by omega) (by omega) hA hB hC
  by_cases hD : (x1.length : Int) = n0 * x2.length
  case neg => exact VR_hD n0 x1 x2 x3 a1 a2 a3 c1 c2 c3 w P1 P2 P3 (by omega) (by omega) (by omega) hA hB hC hD
  exact VR_yes n0 x1 x2 x3 a1 a2 a3 c1 c2 c3 w P1 P2 P3 (by omega) (by omega) (by omega) hA hB hC hD


end Go.Proofs.Ytkfiepiipigcmaa
