/-
  Which numbers are finite: one, and all of a list; by the program and by the reference.
-/
import Derived.Test.YtljhohacgceojaaPredF
namespace Go.Proofs.Ytljhohacgceojaa
open Go.RowKit

theorem drewN_one (w : World) : w.drew = w.drewN 1 := rfl
theorem ord00 : FloatKind.f32.format.order 0 0 = some .eq := by decide +kernel

theorem IsFinite_any (x : Nat) (w : World) : Calls Try.prog 139 #[.float .f32 x] w fun e w' => e = .returned (.bool (fin32 x)) ∧ ∃ m, w' = w.drewN m := by
  by_cases h : fin32 x = true
  · have hs := fun (W : World) => run_sub_some (P := Try.prog) 148 x x 0 (sub_fin h) W
    have h0 := ord00
    rw [h]
    clear h
    go_enter Try.func139, Try.ntmps139
    go_wp2_with fail
    go_ret
    exact ⟨rfl, 0, rfl⟩
  · rw [Bool.not_eq_true] at h
    have hs := fun (W : World) => run_sub_none (P := Try.prog) 148 x x (sub_not h) W
    have h0 := fun (W : World) => (show FloatKind.f32.format.order (tape32 (.nanBits .f32 x x) W) 0 = none from order_nanL _ _ _ (tape32_nan x x W))
    rw [h]
    clear h
    go_enter Try.func139, Try.ntmps139
    go_wp2_with fail
    go_ret
    exact ⟨rfl, 1, rfl⟩
theorem l01Finite_any (x : Nat) (w : World) : Calls Try.prog 142 #[.float .f32 x] w fun e w' => e = .returned (.bool (fin32 x)) ∧ ∃ m, w' = w.drewN m := by
  by_cases h : fin32 x = true
  · have hs := fun (W : World) => run_sub_some (P := Try.prog) 148 x x 0 (sub_fin h) W
    have h0 := ord00
    rw [h]
    clear h
    go_enter Try.func142, Try.ntmps142
    go_wp2_with fail
    go_ret
    exact ⟨rfl, 0, rfl⟩
  · rw [Bool.not_eq_true] at h
    have hs := fun (W : World) => run_sub_none (P := Try.prog) 148 x x (sub_not h) W
    have h0 := fun (W : World) => (show FloatKind.f32.format.order (tape32 (.nanBits .f32 x x) W) 0 = none from order_nanL _ _ _ (tape32_nan x x W))
    rw [h]
    clear h
    go_enter Try.func142, Try.ntmps142
    go_wp2_with fail
    go_ret
    exact ⟨rfl, 1, rfl⟩

def allFin (xs : List Nat) : Bool := xs.all fin32
theorem allFin_yes {xs : List Nat} (h : ∀ i, i < xs.length → fin32 (xs.getD i 0) = true) : allFin xs = true := by
  unfold allFin; rw [List.all_eq_true]
  intro x hx
  obtain ⟨i, hi, rfl⟩ := List.getElem_of_mem hx
  have := h i hi
  simpa [hi] using this
theorem allFin_no {xs : List Nat} {i : Nat} (hi : i < xs.length) (h : fin32 (xs.getD i 0) = false) : allFin xs = false := by
  unfold allFin; rw [List.all_eq_false]
  refine ⟨xs[i], List.getElem_mem hi, ?_⟩
  have : xs.getD i 0 = xs[i] := by simp [hi]
  rw [this] at h
  simp [h]
theorem allFin_get {xs : List Nat} (h : allFin xs = true) {i : Nat} (hi : i < xs.length) : fin32 (xs.getD i 0) = true := by
  unfold allFin at h
  rw [List.all_eq_true] at h
  have : xs.getD i 0 = xs[i] := by simp [hi]
  rw [this]
  exact h _ (List.getElem_mem hi)

theorem drewN_then {w a b : World} (h1 : ∃ m, a = w.drewN m) (h2 : ∃ m, b = a.drewN m) : ∃ m, b = w.drewN m := by
  obtain ⟨m, rfl⟩ := h1
  obtain ⟨n, rfl⟩ := h2
  exact ⟨m + n, World.drewN_drewN _ _ _⟩
theorem rdF_drew {w a : World} {v : Value} {xs : List Nat} (h : RdF w v xs) (hd : ∃ m, a = w.drewN m) : RdF a v xs := by
  obtain ⟨m, rfl⟩ := hd
  exact h.drewN m

set_option maxHeartbeats 400000 in
theorem areFinite_any (v : Value) (xs : List Nat) (w : World) (h : RdF w v xs) :
    Calls Try.prog 125 #[v] w fun e w' => e = .returned (.bool (allFin xs)) ∧ ∃ m, w' = w.drewN m := by
  obtain ⟨a, c, rfl⟩ := h.shape
  have hl := h.len
  unfold maxLen at hl
  have HS := Lib.hid h
  clear h
  go_enter Try.func125, Try.ntmps125
  go_wp2_with fail
  go_loopw [7] (fun i wr => ∃ k : Nat, i = .int .i64 k ∧ k ≤ xs.length ∧ Hid (∀ j, j < k → fin32 (xs.getD j 0) = true) ∧ Hid (∃ m, wr = w.drewN m)) (fun i _ => xs.length - (intOf i).toNat)
  case atStart => exact ⟨0, rfl, Nat.zero_le _, fun j hj => by omega, 0, rfl⟩
  case round =>
    obtain ⟨k, rfl, hk, hall, hd⟩ := hrel
    by_cases hlt : k < xs.length
    · obtain ⟨b, off, rfl, _, hc⟩ := (rdF_drew HS.out hd.out).at hlt
      obtain ⟨x, hx⟩ : ∃ x, x = xs.getD k 0 := ⟨_, rfl⟩
      rw [← hx] at hc
      have HX := Lib.hid hx
      clear hx
      go_wp2_with fail
      refine (IsFinite_any x wr).mono ?_
      rintro e w1 ⟨rfl, hd1⟩
      have HD := Lib.hid (drewN_then hd.out hd1)
      clear hd1 hc
      by_cases hf : fin32 x = true
      · rw [hf]
        go_wp2_with fail
        go_roundw
        case rel => exact ⟨k + 1, by go_num, by omega, fun j hj => by
          rcases Nat.lt_succ_iff_lt_or_eq.1 hj with h | rfl
          · exact hall.out j h
          · rw [← HX.out]; exact hf, HD.out⟩
        case measure => simp [intOf]; omega
      · rw [Bool.not_eq_true] at hf
        rw [hf]
        have HF := Lib.hid (allFin_no hlt (by rw [← HX.out]; exact hf))
        go_wp2_with fail
        go_ret
        exact ⟨by rw [HF.out]; rfl, HD.out⟩
    · obtain rfl : k = xs.length := by omega
      go_wp2_with fail
      go_ret
      exact ⟨by rw [allFin_yes hall.out]; rfl, hd.out⟩

set_option maxHeartbeats 400000 in
theorem l02Finite_any (v : Value) (xs : List Nat) (w : World) (h : RdF w v xs) :
    Calls Try.prog 135 #[v] w fun e w' => e = .returned (.bool (allFin xs)) ∧ ∃ m, w' = w.drewN m := by
  obtain ⟨a, c, rfl⟩ := h.shape
  have hl := h.len
  unfold maxLen at hl
  have HS := Lib.hid h
  clear h
  go_enter Try.func135, Try.ntmps135
  go_wp2_with fail
  go_loopw [3] (fun i wr => ∃ k : Nat, i = .int .i64 k ∧ k ≤ xs.length ∧ Hid (∀ j, j < k → fin32 (xs.getD j 0) = true) ∧ Hid (∃ m, wr = w.drewN m)) (fun i _ => xs.length - (intOf i).toNat)
  case atStart => exact ⟨0, rfl, Nat.zero_le _, fun j hj => by omega, 0, rfl⟩
  case round =>
    obtain ⟨k, rfl, hk, hall, hd⟩ := hrel
    by_cases hlt : k < xs.length
    · obtain ⟨b, off, rfl, _, hc⟩ := (rdF_drew HS.out hd.out).at hlt
      obtain ⟨x, hx⟩ : ∃ x, x = xs.getD k 0 := ⟨_, rfl⟩
      rw [← hx] at hc
      have HX := Lib.hid hx
      clear hx
      go_wp2_with fail
      refine (l01Finite_any x wr).mono ?_
      rintro e w1 ⟨rfl, hd1⟩
      have HD := Lib.hid (drewN_then hd.out hd1)
      clear hd1 hc
      by_cases hf : fin32 x = true
      · rw [hf]
        go_wp2_with fail
        go_roundw
        case rel => exact ⟨k + 1, by go_num, by omega, fun j hj => by
          rcases Nat.lt_succ_iff_lt_or_eq.1 hj with h | rfl
          · exact hall.out j h
          · rw [← HX.out]; exact hf, HD.out⟩
        case measure => simp [intOf]; omega
      · rw [Bool.not_eq_true] at hf
        rw [hf]
        have HF := Lib.hid (allFin_no hlt (by rw [← HX.out]; exact hf))
        go_wp2_with fail
        go_ret
        exact ⟨by rw [HF.out]; rfl, HD.out⟩
    · obtain rfl : k = xs.length := by omega
      go_wp2_with fail
      go_ret
      exact ⟨by rw [allFin_yes hall.out]; rfl, hd.out⟩

theorem areFinite_qs (v : Value) (xs : List Nat) (w : World) (n : Nat) (h : RdF w v xs) :
    Calls Try.prog 125 #[v] (w.drewN n) fun e w'' => e = .returned (.bool (allFin xs)) ∧ ∃ m, w'' = w.drewN m := by
  refine (areFinite_any v xs _ (h.drewN n)).mono ?_
  rintro e w' ⟨rfl, hd⟩
  exact ⟨rfl, drewN_then ⟨n, rfl⟩ hd⟩

/-- At least nothing. -/
def geq0 (x : Nat) : Bool := FloatKind.f32.format.order x 0 == some .gt || FloatKind.f32.format.order x 0 == some .eq
def least (x : Nat) : Bool := fin32 x && geq0 x
theorem lt_geq {x : Nat} (h : fin32 x = true) : (FloatKind.f32.format.order x 0 == some .lt) = !geq0 x := by
  unfold geq0
  have e : ∃ o, FloatKind.f32.format.order x 0 = some o := by
    unfold fin32 at h
    show ∃ o, Ieee.Format.order Ieee.single x 0 = some o
    unfold Ieee.Format.order
    have e0 : Ieee.single.read 0 = .number false 0 (-149) := by decide +kernel
    rw [e0]
    cases hr : Ieee.single.read x with
    | nan a b => rw [hr] at h; simp at h
    | infinity s => rw [hr] at h; simp at h
    | number s m e => exact ⟨_, rfl⟩
  obtain ⟨o, ho⟩ := e
  rw [ho]
  cases o <;> rfl

theorem l02Least_any (x : Nat) (w : World) : Calls Try.prog 136 #[.float .f32 x] w fun e w' => e = .returned (.bool (least x)) ∧ ∃ m, w' = w.drewN m := by
  by_cases h : fin32 x = true
  · have hg : least x = geq0 x := by unfold least; rw [h]; rfl
    have HG := Lib.hid hg
    have H := Lib.hid h
    clear hg h
    go_enter Try.func136, Try.ntmps136
    go_wp2_with fail
    refine (l01Finite_any x w).mono ?_
    rintro e w1 ⟨rfl, hd1⟩
    rw [H.out]
    go_wp2_with fail
    go_ret
    exact ⟨by rw [HG.out]; rfl, hd1⟩
  · rw [Bool.not_eq_true] at h
    have HG := Lib.hid (show least x = false by unfold least; rw [h]; rfl)
    have H := Lib.hid h
    clear h
    go_enter Try.func136, Try.ntmps136
    go_wp2_with fail
    refine (l01Finite_any x w).mono ?_
    rintro e w1 ⟨rfl, hd1⟩
    rw [H.out]
    go_wp2_with fail
    go_ret
    exact ⟨by rw [HG.out]; rfl, hd1⟩

end Go.Proofs.Ytljhohacgceojaa
