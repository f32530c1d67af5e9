/-
  Equal lists of numbers, and of jobs.
-/
import Derived.Test.YtljhohacgceojaaSameN
import Derived.Test.YtljhohacgceojaaOpenD
namespace Go.Proofs.Ytljhohacgceojaa
open Go.RowKit

def sameF : List Nat → List Nat → Bool := eqBy sameX

set_option maxHeartbeats 1000000 in
theorem sameNumbers_any (v v' : Value) (xs ys : List Nat) (w : World) (h : RdF w v xs) (h' : RdF w v' ys) :
    Calls Try.prog 118 #[v, v'] w fun e w' => e = .returned (.bool (sameF xs ys)) ∧ ∃ n, w' = w.drewN n := by
  obtain ⟨a, c, rfl⟩ := h.shape
  obtain ⟨a', c', rfl⟩ := h'.shape
  have hm := h.len
  simp only [maxLen] at hm
  have H1 := Lib.hid h
  have H2 := Lib.hid h'
  clear h h'
  by_cases hl : xs.length = ys.length
  · have hne : ((xs.length : Int) != (ys.length : Int)) = false := by simp [hl]
    have HL := Lib.hid hl
    clear hl
    go_enter Try.func118, Try.ntmps118
    go_wp2_with fail
    go_loopw [13] (fun i wr => ∃ k : Nat, i = .int .i64 k ∧ k ≤ xs.length ∧ Hid (∀ j, j < k → sameX (xs.getD j 0) (ys.getD j 0) = true) ∧ Hid (∃ n, wr = w.drewN n)) (fun i _ => xs.length - (intOf i).toNat)
    case atStart => exact ⟨0, rfl, Nat.zero_le _, fun j hj => by omega, Lib.hid ⟨0, rfl⟩⟩
    case round =>
      obtain ⟨k, rfl, hk, hall, hdr⟩ := hrel
      by_cases hlt : k < xs.length
      · have hlt2 : k < ys.length := by have := HL.out; omega
        obtain ⟨b, off, rfl, hb, hc⟩ := (show RdF wr _ xs by obtain ⟨n, rfl⟩ := hdr.out; exact H1.out.drewN n).at hlt
        obtain ⟨b', off', rfl, hb', hc'⟩ := (show RdF wr _ ys by obtain ⟨n, rfl⟩ := hdr.out; exact H2.out.drewN n).at hlt2
        obtain ⟨x, hx⟩ : ∃ x, x = xs.getD k 0 := ⟨_, rfl⟩
        obtain ⟨y, hy⟩ : ∃ y, y = ys.getD k 0 := ⟨_, rfl⟩
        rw [← hx] at hc
        rw [← hy] at hc'
        have HX := Lib.hid hx
        have HY := Lib.hid hy
        clear hx hy
        have hlt2' : (k : Int) < ys.length := by omega
        obtain ⟨q, hq⟩ : ∃ q, sameX x y = q := ⟨_, rfl⟩
        have HQ := Lib.hid hq
        clear hq
        cases q
        · go_wp2_with fail
          go_quiet ((go_at_call 132; exact quiet_same (SameNumber_b _ x y _ HQ.out)))
          go_wp2_with fail
          go_ret
          exact ⟨by rw [show sameF xs ys = false from eqBy_ne sameX 0 xs ys k hlt hlt2 (by rw [← HX.out, ← HY.out]; exact HQ.out)]; rfl, by obtain ⟨n, rfl⟩ := hdr.out; exact drewN_ex ⟨n, rfl⟩ _⟩
        · go_wp2_with fail
          go_quiet ((go_at_call 132; exact quiet_same (SameNumber_b _ x y _ HQ.out)))
          go_wp2_with fail
          go_roundw
          case rel =>
            refine ⟨k + 1, by go_num, by omega, fun j hj => ?_, Lib.hid (by obtain ⟨n, rfl⟩ := hdr.out; exact drewN_ex ⟨n, rfl⟩ _)⟩
            by_cases hjk : j < k
            · exact hall.out j hjk
            · obtain rfl : j = k := by omega
              rw [← HX.out, ← HY.out]; exact HQ.out
          case measure => simp [intOf]; omega
      · obtain rfl : k = xs.length := by omega
        go_wp2_with fail
        go_ret
        exact ⟨by rw [show sameF xs ys = true from eqBy_all sameX 0 xs ys HL.out hall.out]; rfl, hdr.out⟩
  · have hne : ((xs.length : Int) != (ys.length : Int)) = true := by simp; omega
    have HNO := Lib.hid (show sameF xs ys = false from eqBy_len sameX xs ys hl)
    go_enter Try.func118, Try.ntmps118
    go_wp2_with fail
    go_ret
    exact ⟨by rw [HNO.out]; rfl, 0, rfl⟩

set_option maxHeartbeats 1000000 in
theorem l01SameAll_any (v v' : Value) (xs ys : List Nat) (w : World) (h : RdF w v xs) (h' : RdF w v' ys) (hx : BitsF xs) (hy : BitsF ys) :
    Calls Try.prog 115 #[v, v'] w fun e w' => e = .returned (.bool (sameF xs ys)) ∧ ∃ n, w' = w.drewN n := by
  obtain ⟨a, c, rfl⟩ := h.shape
  obtain ⟨a', c', rfl⟩ := h'.shape
  have hm := h.len
  simp only [maxLen] at hm
  have H1 := Lib.hid h
  have H2 := Lib.hid h'
  have HBX := Lib.hid hx
  have HBY := Lib.hid hy
  clear h h' hx hy
  by_cases hl : xs.length = ys.length
  · have hne : ((xs.length : Int) != (ys.length : Int)) = false := by simp [hl]
    have HL := Lib.hid hl
    clear hl
    go_enter Try.func115, Try.ntmps115
    go_wp2_with fail
    go_loopw [5] (fun i wr => ∃ k : Nat, i = .int .i64 k ∧ k ≤ xs.length ∧ Hid (∀ j, j < k → sameX (xs.getD j 0) (ys.getD j 0) = true) ∧ Hid (∃ n, wr = w.drewN n)) (fun i _ => xs.length - (intOf i).toNat)
    case atStart => exact ⟨0, rfl, Nat.zero_le _, fun j hj => by omega, Lib.hid ⟨0, rfl⟩⟩
    case round =>
      obtain ⟨k, rfl, hk, hall, hdr⟩ := hrel
      by_cases hlt : k < xs.length
      · have hlt2 : k < ys.length := by have := HL.out; omega
        obtain ⟨b, off, rfl, hb, hc⟩ := (show RdF wr _ xs by obtain ⟨n, rfl⟩ := hdr.out; exact H1.out.drewN n).at hlt
        obtain ⟨b', off', rfl, hb', hc'⟩ := (show RdF wr _ ys by obtain ⟨n, rfl⟩ := hdr.out; exact H2.out.drewN n).at hlt2
        have bx := HBX.out (xs.getD k 0) (by simp [hlt])
        have by0 := HBY.out (ys.getD k 0) (by simp [hlt2])
        obtain ⟨x, hx⟩ : ∃ x, x = xs.getD k 0 := ⟨_, rfl⟩
        obtain ⟨y, hy⟩ : ∃ y, y = ys.getD k 0 := ⟨_, rfl⟩
        rw [← hx] at hc bx
        rw [← hy] at hc' by0
        have HX := Lib.hid hx
        have HY := Lib.hid hy
        clear hx hy
        have hlt2' : (k : Int) < ys.length := by omega
        obtain ⟨q, hq⟩ : ∃ q, sameX x y = q := ⟨_, rfl⟩
        have HQ := Lib.hid hq
        clear hq
        cases q
        · go_wp2_with fail
          go_quiet ((go_at_call 131; exact quiet_same (l01Same_b _ x y _ bx by0 HQ.out)))
          go_wp2_with fail
          go_ret
          exact ⟨by rw [show sameF xs ys = false from eqBy_ne sameX 0 xs ys k hlt hlt2 (by rw [← HX.out, ← HY.out]; exact HQ.out)]; rfl, by obtain ⟨n, rfl⟩ := hdr.out; exact drewN_ex ⟨n, rfl⟩ _⟩
        · go_wp2_with fail
          go_quiet ((go_at_call 131; exact quiet_same (l01Same_b _ x y _ bx by0 HQ.out)))
          go_wp2_with fail
          go_roundw
          case rel =>
            refine ⟨k + 1, by go_num, by omega, fun j hj => ?_, Lib.hid (by obtain ⟨n, rfl⟩ := hdr.out; exact drewN_ex ⟨n, rfl⟩ _)⟩
            by_cases hjk : j < k
            · exact hall.out j hjk
            · obtain rfl : j = k := by omega
              rw [← HX.out, ← HY.out]; exact HQ.out
          case measure => simp [intOf]; omega
      · obtain rfl : k = xs.length := by omega
        go_wp2_with fail
        go_ret
        exact ⟨by rw [show sameF xs ys = true from eqBy_all sameX 0 xs ys HL.out hall.out]; rfl, hdr.out⟩
  · have hne : ((xs.length : Int) != (ys.length : Int)) = true := by simp; omega
    have HNO := Lib.hid (show sameF xs ys = false from eqBy_len sameX xs ys hl)
    go_enter Try.func115, Try.ntmps115
    go_wp2_with fail
    go_ret
    exact ⟨by rw [HNO.out]; rfl, 0, rfl⟩

end Go.Proofs.Ytljhohacgceojaa
