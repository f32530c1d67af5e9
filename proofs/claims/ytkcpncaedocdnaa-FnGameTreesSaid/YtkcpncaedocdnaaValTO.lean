/-
  Trees: which are valid: the reference's and the program's functions by value.
-/
import Derived.Test.YtkcpncaedocdnaaValT
import Derived.Deep.Cut
namespace Go.Proofs.Ytkcpncaedocdnaa
open Go.RowKit

theorem ValT_iff (p q : List Int) (h1 : 1 ≤ p.length) (h2 : p.length ≤ 64) (h3 : q.length = p.length) (h4 : p.getD 0 0 = -1) (h5 : allIn (-1000000) 1000000 q = true) :
    ValT (p, q) ↔ ∀ i : Nat, i < p.length - 1 → inB 0 i (p.getD (i + 1) 0) = true := by
  constructor
  · rintro ⟨_, _, _, _, h⟩ i hi
    have := (h (i + 1) (by simp only; omega)).1 (by omega)
    simpa using this
  · intro h
    refine ⟨h1, h2, h3, h4, fun i hi => ⟨fun h0 => ?_, (allIn_iff _ _ _).1 h5 i (by simp only at hi; omega)⟩⟩
    simp only at hi
    have := h (i - 1) (by omega)
    rw [show i - 1 + 1 = i by omega, show ((i - 1 : Nat) : Int) = (i : Int) - 1 by omega] at this
    exact this

set_option maxHeartbeats 2000000 in
theorem implValidTree_o (v : Value) (t : List Int × List Int) (w0 : World) (h : RdT w0 v t) :
    Calls Try.prog 68 #[v] w0 fun e w' => e = .returned (.bool (validT t)) ∧ Below w0.heap.size w0 w' := by
  obtain ⟨p, q⟩ := t
  obtain ⟨a, c, a', c', rfl⟩ := h.shape
  simp only at h ⊢
  go_enter Try.func68, Try.ntmps68
  go_upto_region 1 with fail
  refine wp_at fun w hw => ?_
  have hb0 : Below w0.heap.size w0 w := by subst hw; (repeat' first | exact Below.refl _ _ | assumption | refine Below.alloc ?_ ?_ _ | refine Below.setCell ?_ ?_ _ | refine Below.drew ?_ | (simp; done) | (simp; omega))
  have hblk : Blk w w0.heap.size 28 #[.slice a p.length c, .slice a' q.length c'] := by subst hw; exact Blk.new _ _ _
  clear hw
  obtain ⟨h1, h2⟩ := (h.up hb0 (Nat.le_refl _)).parts
  simp only at h1 h2
  have l1 := h1.len
  have l2 := h2.len
  unfold maxLen at l1 l2
  have e0 : w.cell? ⟨w0.heap.size, 0, none⟩ = some (.slice a p.length c) := hblk.cell 0 rfl
  have e1 : w.cell? ⟨w0.heap.size, 1, none⟩ = some (.slice a' q.length c') := hblk.cell 1 rfl
  have HP := Lib.hid h1
  have HQ := Lib.hid h2
  have HB := Lib.hid hb0
  clear h1 h2 h hblk hb0
  by_cases hA : 1 ≤ p.length ∧ p.length ≤ 64
  case neg =>
    have hin := inB_false (lo := 1) (hi := 64) (n := (p.length : Int)) (by omega)
    have HA := Lib.hid hA
    clear hA
    go_wp2_with (first
      | (go_at_call 95; refine (size_any _ _ (by unfold maxLen; omega)).mono ?_; rintro e w' ⟨rfl, rfl⟩)
      | (go_at_call 99; refine (within_any _ _ _ _).mono ?_; rintro e w' ⟨rfl, rfl⟩)
      | (go_at_call 127; refine (allWithin_any _ q _ _ _ HQ.out).mono ?_; rintro e w' ⟨rfl, rfl⟩))
    go_ret
    exact ⟨by rw [validT_false (by rintro ⟨x, y, _⟩; exact HA.out ⟨x, y⟩)]; rfl, HB.out⟩
  have hin := inB_true (lo := 1) (hi := 64) (n := (p.length : Int)) (by omega)
  obtain ⟨hA1, hA2⟩ := hA
  by_cases hC : q.length = p.length
  case neg =>
    have hC' : ((q.length : Int) != (p.length : Int)) = true := by simp; omega
    have HC := Lib.hid hC
    clear hC
    go_wp2_with (first
      | (go_at_call 95; refine (size_any _ _ (by unfold maxLen; omega)).mono ?_; rintro e w' ⟨rfl, rfl⟩)
      | (go_at_call 99; refine (within_any _ _ _ _).mono ?_; rintro e w' ⟨rfl, rfl⟩)
      | (go_at_call 127; refine (allWithin_any _ q _ _ _ HQ.out).mono ?_; rintro e w' ⟨rfl, rfl⟩))
    go_ret
    exact ⟨by rw [validT_false (by rintro ⟨_, _, x, _⟩; exact HC.out x)]; rfl, HB.out⟩
  have hC' : ((q.length : Int) != (p.length : Int)) = false := by simp; omega
  have HC := Lib.hid hC
  clear hC
  obtain ⟨pb, po, rfl, _, hp0⟩ := HP.out.at (i := 0) (by omega)
  obtain ⟨x0, hx0⟩ : ∃ x, x = p.getD 0 0 := ⟨_, rfl⟩
  rw [← hx0] at hp0
  simp only [Nat.add_zero] at hp0
  have HX0 := Lib.hid hx0
  clear hx0
  have hpos : (0 : Nat) < p.length := by omega
  by_cases hD : x0 = -1
  case neg =>
    have hD' : (x0 != -1) = true := by simp [hD]
    go_wp2_with (first
      | (go_at_call 95; refine (size_any _ _ (by unfold maxLen; omega)).mono ?_; rintro e w' ⟨rfl, rfl⟩)
      | (go_at_call 99; refine (within_any _ _ _ _).mono ?_; rintro e w' ⟨rfl, rfl⟩)
      | (go_at_call 127; refine (allWithin_any _ q _ _ _ HQ.out).mono ?_; rintro e w' ⟨rfl, rfl⟩))
    go_ret
    exact ⟨by rw [validT_false (by rintro ⟨_, _, _, x, _⟩; exact hD (HX0.out.trans x))]; rfl, HB.out⟩
  have hD' : (x0 != -1) = false := by simp [hD]
  have HD := Lib.hid hD
  clear hD
  by_cases hE : allIn (-1000000) 1000000 q = true
  case neg =>
    have hE' : allIn (-1000000) 1000000 q = false := by simpa using hE
    have HE := Lib.hid hE
    clear hE
    go_wp2_with (first
      | (go_at_call 95; refine (size_any _ _ (by unfold maxLen; omega)).mono ?_; rintro e w' ⟨rfl, rfl⟩)
      | (go_at_call 99; refine (within_any _ _ _ _).mono ?_; rintro e w' ⟨rfl, rfl⟩)
      | (go_at_call 127; refine (allWithin_any _ q _ _ _ HQ.out).mono ?_; rintro e w' ⟨rfl, rfl⟩))
    go_ret
    refine ⟨?_, HB.out⟩
    rw [validT_false (by
      rintro ⟨_, _, _, _, x⟩
      refine HE.out ((allIn_iff _ _ _).2 fun i hi => (x i ?_).2)
      have := HC.out
      simp only
      omega)]
    rfl
  have HE := Lib.hid hE
  go_upto_region 3 with (first
      | (go_at_call 95; refine (size_any _ _ (by unfold maxLen; omega)).mono ?_; rintro e w' ⟨rfl, rfl⟩)
      | (go_at_call 99; refine (within_any _ _ _ _).mono ?_; rintro e w' ⟨rfl, rfl⟩)
      | (go_at_call 127; refine (allWithin_any _ q _ _ _ HQ.out).mono ?_; rintro e w' ⟨rfl, rfl⟩))
  clear hin hC' hD' hE e1
  have hcap : p.length ≤ c := by
    rcases HP.out with ⟨e, _⟩ | ⟨ad, cap, e, h1, _⟩
    · simp at e
    · simp only [Value.slice.injEq] at e
      obtain ⟨_, _, rfl⟩ := e
      simpa using h1
  by_cases hc1 : c = 1
  · subst hc1
    have hp1 : p.length ≤ 1 := hcap
    go_wp2_with fail
    refine wp_loop_rounds 1 ?_
    rw [rounds_succ]
    go_wp2_with fail
    go_ret
    exact ⟨by rw [validT_true ((ValT_iff p q hA1 hA2 HC.out (HX0.out ▸ HD.out) HE.out).2 (fun i hi => by omega))]; rfl, HB.out⟩
  · go_wp2_with fail
    go_loop [37] (fun i => ∃ k : Nat, i = .int .i64 k ∧ k ≤ p.length - 1 ∧ Hid (∀ i : Nat, i < k → inB 0 i (p.getD (i + 1) 0) = true)) (fun i => p.length - (intOf i).toNat)
    case atStart => exact ⟨0, rfl, Nat.zero_le _, fun i hi => by omega⟩
    case round =>
      obtain ⟨k, rfl, hk, hall⟩ := hrel
      by_cases hlt : k < p.length - 1
      · obtain ⟨_, _, e, _, hcp⟩ := HP.out.at (i := k + 1) (by omega)
        simp only [Option.some.injEq, Addr.mk.injEq, and_true] at e
        obtain ⟨rfl, rfl⟩ := e
        obtain ⟨x, hx⟩ : ∃ x, x = p.getD (k + 1) 0 := ⟨_, rfl⟩
        rw [← hx, show po + (k + 1) = po + 1 + k by omega] at hcp
        have HX := Lib.hid hx
        clear hx
        by_cases hin : inB 0 k x = true
        · go_wp2_with (go_at_call 99; refine (within_any _ _ _ _).mono ?_; rintro e w' ⟨rfl, rfl⟩)
          go_round
          case rel => exact ⟨k + 1, by go_num, by omega, fun i hi => by
            rcases Nat.lt_succ_iff_lt_or_eq.1 hi with h | rfl
            · exact hall.out i h
            · rw [← HX.out]; exact hin⟩
          case measure => simp [intOf]; omega
        · have hin' : inB 0 k x = false := by simpa using hin
          have HN := Lib.hid hin
          clear hin
          go_wp2_with (go_at_call 99; refine (within_any _ _ _ _).mono ?_; rintro e w' ⟨rfl, rfl⟩)
          go_ret
          exact ⟨by rw [validT_false (fun h => HN.out (by rw [HX.out]; exact (ValT_iff p q hA1 hA2 HC.out (HX0.out ▸ HD.out) HE.out).1 h k hlt))]; rfl, HB.out⟩
      · obtain rfl : k = p.length - 1 := by omega
        go_wp2_with fail
        go_ret
        exact ⟨by rw [validT_true ((ValT_iff p q hA1 hA2 HC.out (HX0.out ▸ HD.out) HE.out).2 hall.out)]; rfl, HB.out⟩

end Go.Proofs.Ytkcpncaedocdnaa
