/-
  Valid desks: the reference's tests of sizes, jobs and ways.
-/
import Derived.Test.YtljhohacgceojaaAreCit
import Derived.Test.YtljhohacgceojaaValidRS
namespace Go.Proofs.Ytljhohacgceojaa
open Go.RowKit

set_option maxHeartbeats 1000000 in
theorem l04Sizes_any (v : Value) (xs : List Int) (w : World) (h : RdI w v xs) :
    Calls Try.prog 122 #[v] w fun e w' => e = .returned (.bool (areSizesB xs)) ∧ w = w' := by
  obtain ⟨a, c, rfl⟩ := h.shape
  have hm := h.len
  simp only [maxLen] at hm
  have HP := Lib.hid h
  clear h
  go_enter Try.func122, Try.ntmps122
  go_wp2_with fail
  go_loop [3] (fun i => ∃ k : Nat, i = .int .i64 k ∧ k ≤ xs.length ∧ Hid (∀ j, j < k → inB 1 1000 (xs.getD j 0) = true)) (fun i => xs.length - (intOf i).toNat)
  case atStart => exact ⟨0, rfl, Nat.zero_le _, fun j hj => by omega⟩
  case round =>
    obtain ⟨k, rfl, hk, hall⟩ := hrel
    by_cases hlt : k < xs.length
    · obtain ⟨b, off, rfl, hb, hc⟩ := HP.out.at hlt
      obtain ⟨x, hx⟩ : ∃ x, x = xs.getD k 0 := ⟨_, rfl⟩
      rw [← hx] at hc
      have HX := Lib.hid hx
      clear hx
      obtain ⟨q, hq⟩ : ∃ q, inB 1 1000 x = q := ⟨_, rfl⟩
      have HQ := Lib.hid hq
      clear hq
      cases q
      · have HN := Lib.hid (show areSizesB xs = false by unfold areSizesB; rw [allIn_false hlt (by rw [← HX.out, HQ.out]), Bool.and_false])
        go_wp2_with (go_at_call 134; refine (in_any _ _ _ _).mono ?_; rintro e w' ⟨rfl, rfl⟩; rw [HQ.out])
        go_ret
        exact ⟨by rw [HN.out]; rfl, rfl⟩
      · go_wp2_with (go_at_call 134; refine (in_any _ _ _ _).mono ?_; rintro e w' ⟨rfl, rfl⟩; rw [HQ.out])
        go_round
        case rel => exact ⟨k + 1, by go_num, by omega, fun j hj => by
          rcases Nat.lt_succ_iff_lt_or_eq.1 hj with h | rfl
          · exact hall.out j h
          · rw [← HX.out]; exact HQ.out⟩
        case measure => simp [intOf]; omega
    · obtain rfl : k = xs.length := by omega
      have HA := Lib.hid (show areSizesB xs = inB 1 16 xs.length by unfold areSizesB; rw [allIn_true hall.out, Bool.and_true])
      by_cases h1 : 1 ≤ xs.length
      · by_cases h2 : xs.length ≤ 16
        · have HN := Lib.hid (show areSizesB xs = true by rw [HA.out, inB_iff]; omega)
          go_wp2_with fail
          go_ret
          exact ⟨by rw [HN.out]; exact congrArg (fun b => Ending.returned (Value.bool b)) (decide_eq_true (by omega)), rfl⟩
        · have HN := Lib.hid (show areSizesB xs = false by rw [HA.out, ← Bool.not_eq_true, inB_iff]; omega)
          go_wp2_with fail
          go_ret
          exact ⟨by rw [HN.out]; exact congrArg (fun b => Ending.returned (Value.bool b)) (decide_eq_false (by omega)), rfl⟩
      · have HN := Lib.hid (show areSizesB xs = false by rw [HA.out, ← Bool.not_eq_true, inB_iff]; omega)
        go_wp2_with fail
        go_ret
        exact ⟨by rw [HN.out]; rfl, rfl⟩

theorem jobB_s (j : JobD) : jobB j = (inB 1 1000 j.long && (inB 0 100000 j.due && (inB 0 1000 j.weight && inB 0 100000 j.ready))) := by
  unfold jobB; rw [Bool.and_comm (inB 0 100000 j.ready)]

set_option maxHeartbeats 1000000 in
theorem l06Job_any (b o : Nat) (j : JobD) (w : World) (d0 : w.cell? ⟨b, o, none⟩ = some (.int .i64 j.long)) (d1 : w.cell? ⟨b, o + 1, none⟩ = some (.int .i64 j.due)) (d2 : w.cell? ⟨b, o + 2, none⟩ = some (.int .i64 j.weight)) (d3 : w.cell? ⟨b, o + 3, none⟩ = some (.int .i64 j.ready)) :
    Calls Try.prog 137 #[.pointer (some ⟨b, o, none⟩)] w fun e w' => e = .returned (.bool (jobB j)) ∧ w = w' := by
  obtain ⟨t1, h1⟩ : ∃ t, inB 1 1000 j.long = t := ⟨_, rfl⟩
  obtain ⟨t2, h2⟩ : ∃ t, inB 0 100000 j.due = t := ⟨_, rfl⟩
  obtain ⟨t3, h3⟩ : ∃ t, inB 0 1000 j.weight = t := ⟨_, rfl⟩
  obtain ⟨t4, h4⟩ : ∃ t, inB 0 100000 j.ready = t := ⟨_, rfl⟩
  have HJ := Lib.hid (show jobB j = (t1 && (t2 && (t3 && t4))) by rw [jobB_s, h1, h2, h3, h4])
  have T1 := Lib.hid h1
  have T2 := Lib.hid h2
  have T3 := Lib.hid h3
  have T4 := Lib.hid h4
  clear h1 h2 h3 h4
  go_enter Try.func137, Try.ntmps137
  cases t1
  · go_wp2_with (go_at_call 134; refine (in_any _ _ _ _).mono ?_; rintro e w' ⟨rfl, rfl⟩; first | rw [T1.out] | rw [T2.out] | rw [T3.out] | rw [T4.out])
    go_ret
    exact ⟨by rw [HJ.out]; rfl, rfl⟩
  cases t2
  · go_wp2_with (go_at_call 134; refine (in_any _ _ _ _).mono ?_; rintro e w' ⟨rfl, rfl⟩; first | rw [T1.out] | rw [T2.out] | rw [T3.out] | rw [T4.out])
    go_ret
    exact ⟨by rw [HJ.out]; rfl, rfl⟩
  cases t3
  · go_wp2_with (go_at_call 134; refine (in_any _ _ _ _).mono ?_; rintro e w' ⟨rfl, rfl⟩; first | rw [T1.out] | rw [T2.out] | rw [T3.out] | rw [T4.out])
    go_ret
    exact ⟨by rw [HJ.out]; rfl, rfl⟩
  go_wp2_with (go_at_call 134; refine (in_any _ _ _ _).mono ?_; rintro e w' ⟨rfl, rfl⟩; first | rw [T1.out] | rw [T2.out] | rw [T3.out] | rw [T4.out])
  go_ret
  exact ⟨by rw [HJ.out]; simp, rfl⟩

set_option maxHeartbeats 1000000 in
theorem l06Are_any (v : Value) (js : List JobD) (w : World) (h : RdJ w v js) :
    Calls Try.prog 123 #[v] w fun e w' => e = .returned (.bool (areJobsB js)) ∧ w = w' := by
  obtain ⟨a, c, rfl⟩ := h.shape
  have hm := h.len
  simp only [maxLen] at hm
  have HP := Lib.hid h
  clear h
  go_enter Try.func123, Try.ntmps123
  go_wp2_with fail
  go_loop [3] (fun i => ∃ k : Nat, i = .int .i64 k ∧ k ≤ js.length ∧ Hid (∀ j, j < k → jobB (js.getD j J0) = true)) (fun i => js.length - (intOf i).toNat)
  case atStart => exact ⟨0, rfl, Nat.zero_le _, fun j hj => by omega⟩
  case round =>
    obtain ⟨k, rfl, hk, hall⟩ := hrel
    by_cases hlt : k < js.length
    · obtain ⟨b, off, rfl, hb, d0, d1, d2, d3⟩ := HP.out.at hlt
      obtain ⟨x, hx⟩ : ∃ x, x = js.getD k J0 := ⟨_, rfl⟩
      rw [← hx] at d0 d1 d2 d3
      have HX := Lib.hid hx
      have HC := Lib.hid (l06Job_any b (off + k * 4) x w d0 d1 d2 d3)
      clear hx d0 d1 d2 d3
      obtain ⟨q, hq⟩ : ∃ q, jobB x = q := ⟨_, rfl⟩
      rw [hq] at HC
      have HQ := Lib.hid hq
      clear hq
      cases q
      · have HN := Lib.hid (show areJobsB js = false by unfold areJobsB; rw [allB_false hlt (by rw [← HX.out, HQ.out]), Bool.and_false])
        go_wp2_with (go_at_call 137; refine HC.out.mono ?_; rintro e w' ⟨rfl, rfl⟩)
        go_ret
        exact ⟨by rw [HN.out]; rfl, rfl⟩
      · go_wp2_with (go_at_call 137; refine HC.out.mono ?_; rintro e w' ⟨rfl, rfl⟩)
        go_round
        case rel => exact ⟨k + 1, by go_num, by omega, fun j hj => by
          rcases Nat.lt_succ_iff_lt_or_eq.1 hj with h | rfl
          · exact hall.out j h
          · rw [← HX.out]; exact HQ.out⟩
        case measure => simp [intOf]; omega
    · obtain rfl : k = js.length := by omega
      have HA := Lib.hid (show areJobsB js = inB 1 12 js.length by unfold areJobsB; rw [allB_true hall.out, Bool.and_true])
      by_cases h1 : 1 ≤ js.length
      · by_cases h2 : js.length ≤ 12
        · have HN := Lib.hid (show areJobsB js = true by rw [HA.out, inB_iff]; omega)
          go_wp2_with fail
          go_ret
          exact ⟨by rw [HN.out]; exact congrArg (fun b => Ending.returned (Value.bool b)) (decide_eq_true (by omega)), rfl⟩
        · have HN := Lib.hid (show areJobsB js = false by rw [HA.out, ← Bool.not_eq_true, inB_iff]; omega)
          go_wp2_with fail
          go_ret
          exact ⟨by rw [HN.out]; exact congrArg (fun b => Ending.returned (Value.bool b)) (decide_eq_false (by omega)), rfl⟩
      · have HN := Lib.hid (show areJobsB js = false by rw [HA.out, ← Bool.not_eq_true, inB_iff]; omega)
        go_wp2_with fail
        go_ret
        exact ⟨by rw [HN.out]; rfl, rfl⟩

end Go.Proofs.Ytljhohacgceojaa
