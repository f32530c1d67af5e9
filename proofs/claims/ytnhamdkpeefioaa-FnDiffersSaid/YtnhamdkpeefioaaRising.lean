/-
  Rising lists, by the program.
-/
import Derived.Test.YtnhamdkpeefioaaAllIn
namespace Go.Proofs.Ytnhamdkpeefioaa
open Go.RowKit

set_option maxHeartbeats 1000000 in
theorem isRising_any (v : Value) (xs : List Int) (w : World) (h : RdI w v xs) :
    Calls Try.prog 90 #[v] w fun e w' => e = .returned (.bool (risingB xs)) ∧ Below w.heap.size w w' := by
  obtain ⟨a, c, rfl⟩ := h.shape
  have hl := h.len
  unfold maxLen at hl
  have HS := Lib.hid h
  clear h
  go_enter Try.func90, Try.ntmps90
  go_wp2_with fail
  go_loopw [3] (fun i wr => ∃ k : Nat, i = .int .i64 k ∧ 1 ≤ k ∧ Hid (∀ i, i < k → i < xs.length → 0 < i → xs.getD (i - 1) 0 < xs.getD i 0) ∧ Below w.heap.size w wr) (fun i _ => xs.length - (intOf i).toNat)
  case atStart => exact ⟨1, rfl, Nat.le_refl _, fun i hi _ h0 => by omega, Below.refl _ _⟩
  case round =>
    obtain ⟨k, rfl, hk1, hall, hb⟩ := hrel
    have HB := Lib.hid hb
    have HS1 := Lib.hid (HS.out.up hb (Nat.le_refl _))
    clear hb
    by_cases hlt : k < xs.length
    · obtain ⟨b, off, rfl, _, hc⟩ := HS1.out.at hlt
      obtain ⟨_, _, e, _, hc2⟩ := HS1.out.at (i := k - 1) (by omega)
      simp only [Option.some.injEq, Addr.mk.injEq, and_true] at e
      obtain ⟨rfl, rfl⟩ := e
      obtain ⟨x, hx⟩ : ∃ x, x = xs.getD k 0 := ⟨_, rfl⟩
      obtain ⟨y, hy⟩ : ∃ y, y = xs.getD (k - 1) 0 := ⟨_, rfl⟩
      rw [← hx] at hc
      rw [← hy] at hc2
      have HX := Lib.hid hx
      have HY := Lib.hid hy
      clear hx hy
      have hjl' : (k : Int) < xs.length := by omega
      have hjm : (k : Int) - 1 < xs.length := by omega
      have hjm0 : (0 : Int) ≤ (k : Int) - 1 := by omega
      have hjt : ((k : Int) - 1).toNat = k - 1 := by omega
      have hjw : IntKind.i64.wrap ((k : Int) - 1) = (k : Int) - 1 := IntWalk.i64_in _ (by omega)
      by_cases hxy : x ≤ y
      · have hxd : decide (x ≤ y) = true := by simp [hxy]
        go_wp2_with fail
        go_quiet (fail)
        clear hjw hjt
        go_wp2_with fail
        go_ret
        exact ⟨by rw [risingB_false (fun h => by have := h k hlt (by omega); rw [← HX.out, ← HY.out] at this; omega)]; rfl, below_drewN HB.out _⟩
      · have hxd : decide (x ≤ y) = false := by simp; omega
        go_wp2_with fail
        go_quiet (fail)
        clear hjw hjt
        go_wp2_with fail
        go_roundw
        case rel => exact ⟨k + 1, by go_num, by omega, fun i hi h1 h0 => by
          rcases Nat.lt_succ_iff_lt_or_eq.1 hi with h | rfl
          · exact hall.out i h h1 h0
          · rw [← HX.out, ← HY.out]; omega, below_drewN HB.out _⟩
        case measure => simp [intOf]; omega
    · go_wp2_with fail
      go_ret
      exact ⟨by rw [risingB_true (fun i hi h0 => hall.out i (by omega) hi h0)]; rfl, HB.out⟩

end Go.Proofs.Ytnhamdkpeefioaa
