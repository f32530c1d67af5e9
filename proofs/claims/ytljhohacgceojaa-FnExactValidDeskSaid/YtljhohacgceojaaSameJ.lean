/-
  Equal lists of jobs: the library's comparison.
-/
import Derived.Test.YtljhohacgceojaaSameNL
namespace Go.Proofs.Ytljhohacgceojaa
open Go.RowKit

def sameJ (x y : JobD) : Bool := (x.long == y.long) && ((x.due == y.due) && ((x.weight == y.weight) && (x.ready == y.ready)))
def sameJs : List JobD → List JobD → Bool := eqBy sameJ
theorem jobs_five (x y : JobD) : ((x.long == y.long) = true ∧ (x.due == y.due) = true ∧ (x.weight == y.weight) = true ∧ (x.ready == y.ready) = true ∧ sameJ x y = true) ∨ ((x.long == y.long) = false ∧ sameJ x y = false) ∨ ((x.long == y.long) = true ∧ (x.due == y.due) = false ∧ sameJ x y = false) ∨ ((x.long == y.long) = true ∧ (x.due == y.due) = true ∧ (x.weight == y.weight) = false ∧ sameJ x y = false) ∨ ((x.long == y.long) = true ∧ (x.due == y.due) = true ∧ (x.weight == y.weight) = true ∧ (x.ready == y.ready) = false ∧ sameJ x y = false) := by
  unfold sameJ
  cases (x.long == y.long) <;> cases (x.due == y.due) <;> cases (x.weight == y.weight) <;> cases (x.ready == y.ready) <;> simp
theorem RdJ.drewN' {w : World} {v : Value} {js : List JobD} (h : RdJ w v js) (n : Nat) : RdJ (w.drewN n) v js := h.up (below_drewN (Below.refl w.heap.size w) n) (Nat.le_refl _)

set_option maxHeartbeats 2000000 in
set_option maxRecDepth 4000 in
theorem equalJ_any (v v' : Value) (xs ys : List JobD) (w : World) (h : RdJ w v xs) (h' : RdJ w v' ys) :
    Calls Try.prog 84 #[v, v'] w fun e w' => e = .returned (.bool (sameJs xs ys)) ∧ ∃ n, w' = w.drewN n := by
  obtain ⟨a, c, rfl⟩ := h.shape
  obtain ⟨a', c', rfl⟩ := h'.shape
  have hm := h.len
  simp only [maxLen] at hm
  have H1 := Lib.hid h
  have H2 := Lib.hid h'
  clear h h'
  by_cases hl : xs.length = ys.length
  · have hne : ((xs.length : Int) != (ys.length : Int)) = false := by simp [hl]
    have HL := Lib.hid hl
    clear hl
    go_enter Try.func84, Try.ntmps84
    go_wp2_with fail
    go_loopw [13] (fun i wr => ∃ k : Nat, i = .int .i64 k ∧ k ≤ xs.length ∧ Hid (∀ j, j < k → sameJ (xs.getD j J0) (ys.getD j J0) = true) ∧ Hid (∃ n, wr = w.drewN n)) (fun i _ => xs.length - (intOf i).toNat)
    case atStart => exact ⟨0, rfl, Nat.zero_le _, fun j hj => by omega, Lib.hid ⟨0, rfl⟩⟩
    case round =>
      obtain ⟨k, rfl, hk, hall, hdr⟩ := hrel
      by_cases hlt : k < xs.length
      · have hlt2 : k < ys.length := by have := HL.out; omega
        obtain ⟨b, off, rfl, hb, c0, c1, c2, c3⟩ := (show RdJ wr _ xs by obtain ⟨n, rfl⟩ := hdr.out; exact H1.out.drewN' n).at hlt
        obtain ⟨b', off', rfl, hb', e0, e1, e2, e3⟩ := (show RdJ wr _ ys by obtain ⟨n, rfl⟩ := hdr.out; exact H2.out.drewN' n).at hlt2
        obtain ⟨x, hx⟩ : ∃ x, x = xs.getD k J0 := ⟨_, rfl⟩
        obtain ⟨y, hy⟩ : ∃ y, y = ys.getD k J0 := ⟨_, rfl⟩
        rw [← hx] at c0 c1 c2 c3
        rw [← hy] at e0 e1 e2 e3
        have HX := Lib.hid hx
        have HY := Lib.hid hy
        clear hx hy
        have hlt2' : (k : Int) < ys.length := by omega
        rcases jobs_five x y with ⟨h0, h1, h2, h3, HS⟩ | ⟨h0, HS⟩ | ⟨h0, h1, HS⟩ | ⟨h0, h1, h2, HS⟩ | ⟨h0, h1, h2, h3, HS⟩
        · have HQ := Lib.hid HS
          clear HS
          go_wp2_with fail
          go_quiet (fail)
          go_wp2_with fail
          go_roundw
          case rel =>
            refine ⟨k + 1, by go_num, by omega, fun j hj => ?_, Lib.hid (by obtain ⟨n, rfl⟩ := hdr.out; exact drewN_ex ⟨n, rfl⟩ _)⟩
            by_cases hjk : j < k
            · exact hall.out j hjk
            · obtain rfl : j = k := by omega
              rw [← HX.out, ← HY.out]; exact HQ.out
          case measure => simp [intOf]; omega
        · have HQ := Lib.hid HS
          clear HS
          go_wp2_with fail
          go_quiet (fail)
          go_wp2_with fail
          go_ret
          exact ⟨by rw [show sameJs xs ys = false from eqBy_ne sameJ J0 xs ys k hlt hlt2 (by rw [← HX.out, ← HY.out]; exact HQ.out)]; rfl, by obtain ⟨n, rfl⟩ := hdr.out; exact drewN_ex ⟨n, rfl⟩ _⟩
        · have HQ := Lib.hid HS
          clear HS
          go_wp2_with fail
          go_quiet (fail)
          go_wp2_with fail
          go_ret
          exact ⟨by rw [show sameJs xs ys = false from eqBy_ne sameJ J0 xs ys k hlt hlt2 (by rw [← HX.out, ← HY.out]; exact HQ.out)]; rfl, by obtain ⟨n, rfl⟩ := hdr.out; exact drewN_ex ⟨n, rfl⟩ _⟩
        · have HQ := Lib.hid HS
          clear HS
          go_wp2_with fail
          go_quiet (fail)
          go_wp2_with fail
          go_ret
          exact ⟨by rw [show sameJs xs ys = false from eqBy_ne sameJ J0 xs ys k hlt hlt2 (by rw [← HX.out, ← HY.out]; exact HQ.out)]; rfl, by obtain ⟨n, rfl⟩ := hdr.out; exact drewN_ex ⟨n, rfl⟩ _⟩
        · have HQ := Lib.hid HS
          clear HS
          go_wp2_with fail
          go_quiet (fail)
          go_wp2_with fail
          go_ret
          exact ⟨by rw [show sameJs xs ys = false from eqBy_ne sameJ J0 xs ys k hlt hlt2 (by rw [← HX.out, ← HY.out]; exact HQ.out)]; rfl, by obtain ⟨n, rfl⟩ := hdr.out; exact drewN_ex ⟨n, rfl⟩ _⟩
      · obtain rfl : k = xs.length := by omega
        go_wp2_with fail
        go_ret
        exact ⟨by rw [show sameJs xs ys = true from eqBy_all sameJ J0 xs ys HL.out hall.out]; rfl, hdr.out⟩
  · have hne : ((xs.length : Int) != (ys.length : Int)) = true := by simp; omega
    have HNO := Lib.hid (show sameJs xs ys = false from eqBy_len sameJ xs ys hl)
    go_enter Try.func84, Try.ntmps84
    go_wp2_with fail
    go_ret
    exact ⟨by rw [HNO.out]; rfl, 0, rfl⟩

end Go.Proofs.Ytljhohacgceojaa
