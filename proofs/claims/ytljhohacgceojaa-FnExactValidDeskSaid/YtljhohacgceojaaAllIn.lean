/-
  Lists of integers within bounds; rising lists.
-/
import Derived.Test.YtljhohacgceojaaPredI
namespace Go.Proofs.Ytljhohacgceojaa
open Go.RowKit

def allIn (lo hi : Int) (xs : List Int) : Bool := xs.all (inB lo hi)

theorem allIn_true {lo hi : Int} {xs : List Int} (h : ∀ i, i < xs.length → inB lo hi (xs.getD i 0) = true) : allIn lo hi xs = true := by
  unfold allIn
  rw [List.all_eq_true]
  intro x hx
  obtain ⟨i, hi, rfl⟩ := List.mem_iff_getElem.1 hx
  have := h i hi
  simpa [hi] using this
theorem allIn_false {lo hi : Int} {xs : List Int} {i : Nat} (hlt : i < xs.length) (h : inB lo hi (xs.getD i 0) = false) : allIn lo hi xs = false := by
  unfold allIn
  rw [List.all_eq_false]
  exact ⟨xs[i], List.getElem_mem hlt, by simpa [hlt] using h⟩

set_option maxHeartbeats 400000 in
theorem allWithin_any (v : Value) (xs : List Int) (lo hi : Int) (w : World) (h : RdI w v xs) :
    Calls Try.prog 126 #[v, .int .i64 lo, .int .i64 hi] w fun e w' => e = .returned (.bool (allIn lo hi xs)) ∧ w = w' := by
  obtain ⟨a, c, rfl⟩ := h.shape
  have hl := h.len
  unfold maxLen at hl
  have HS := Lib.hid h
  clear h
  go_enter Try.func126, Try.ntmps126
  go_wp2_with fail
  go_loop [11] (fun i => ∃ k : Nat, i = .int .i64 k ∧ k ≤ xs.length ∧ Hid (∀ i, i < k → inB lo hi (xs.getD i 0) = true)) (fun i => xs.length - (intOf i).toNat)
  case atStart => exact ⟨0, rfl, Nat.zero_le _, fun i hi => by omega⟩
  case round =>
    obtain ⟨k, rfl, hk, hall⟩ := hrel
    by_cases hlt : k < xs.length
    · obtain ⟨b, off, rfl, hb, hc⟩ := HS.out.at hlt
      obtain ⟨x, hx⟩ : ∃ x, x = xs.getD k 0 := ⟨_, rfl⟩
      rw [← hx] at hc
      have HX := Lib.hid hx
      clear hx
      by_cases hin : inB lo hi x = true
      · go_wp2_with (go_at_call 98; refine (within_any _ _ _ _).mono ?_; rintro e w' ⟨rfl, rfl⟩)
        go_round
        case rel => exact ⟨k + 1, by go_num, by omega, fun i hi => by
          rcases Nat.lt_succ_iff_lt_or_eq.1 hi with h | rfl
          · exact hall.out i h
          · rw [← HX.out]; exact hin⟩
        case measure => simp [intOf]; omega
      · have hin' : inB lo hi x = false := by simpa using hin
        go_wp2_with (go_at_call 98; refine (within_any _ _ _ _).mono ?_; rintro e w' ⟨rfl, rfl⟩)
        go_ret
        exact ⟨by rw [allIn_false hlt (by rw [← HX.out]; exact hin')]; rfl, rfl⟩
    · obtain rfl : k = xs.length := by omega
      go_wp2_with fail
      go_ret
      exact ⟨by rw [allIn_true hall.out]; rfl, rfl⟩

theorem allIn_iff (lo hi : Int) (xs : List Int) : allIn lo hi xs = true ↔ ∀ i, i < xs.length → inB lo hi (xs.getD i 0) = true := by
  constructor
  · intro h i hi
    unfold allIn at h
    rw [List.all_eq_true] at h
    have := h xs[i] (List.getElem_mem hi)
    simpa [hi] using this
  · exact allIn_true

def Rising (xs : List Int) : Prop := ∀ i, i < xs.length → 0 < i → xs.getD (i - 1) 0 < xs.getD i 0
instance (xs : List Int) : Decidable (Rising xs) := by unfold Rising; exact inferInstance
def risingB (xs : List Int) : Bool := decide (Rising xs)
theorem risingB_true {xs : List Int} (h : Rising xs) : risingB xs = true := by simp [risingB, h]
theorem risingB_false {xs : List Int} (h : ¬ Rising xs) : risingB xs = false := by simp [risingB, h]

end Go.Proofs.Ytljhohacgceojaa
