/-
  Counting squares.
-/
import Derived.Test.YtkcpncaedocdnaaCountSM
import Derived.Test.YtkcpncaedocdnaaSquare4
namespace Go.Proofs.Ytkcpncaedocdnaa
open Go.RowKit

theorem isols_576 {n : Nat} {xs : List Int} (hn : 1 ≤ n) (hn4 : n ≤ 4) (hl : xs.length = n * n) (hr : ∀ v ∈ xs, 0 ≤ v ∧ v ≤ n) : (isols n (n * n) xs 0).length ≤ 576 := by
  refine Nat.le_trans (isols_le n hn (n * n) xs (List.replicate (n * n) 0) 0 (by omega) hl (by simp) hr (fun j hj => by omega) (fun j _ => ?_)) (squares4 n hn hn4)
  simp [List.getElem?_replicate]
  split <;> rfl

/-- What is returned. -/
def csOk (n : Int) (xs : List Int) : Bool := decide ((1 ≤ n ∧ n ≤ 4) ∧ (xs.length : Int) = n * n ∧ allIn 0 n xs = true)
def csN (n : Int) (xs : List Int) : Int := if csOk n xs = true then ((isols n.toNat (n.toNat * n.toNat) xs 0).length : Nat) else 0
theorem csOk_iff (n : Int) (xs : List Int) : csOk n xs = true ↔ CellsOk n 4 xs := by unfold csOk CellsOk; simp

theorem Try.entersCS (args : Array Value) (w : World) : (callFunc 109 args).run Try.prog w = .ok (.enter 109 args) w :=
  enters_of Try.func109 (by kernel_rfl) rfl args w

/-- The closure that counts. -/
theorem countS1_any (v : Value) (cb k : Nat) (w : World) (hk : k ≤ 16777216) (hbox : Box w cb 2 (.int .i64 k)) :
    Calls Try.prog 109 #[v, .pointer (some ⟨cb, 0, none⟩)] w fun e w' => e = .returned (.bool true) ∧ w' = w.setCell ⟨cb, 0, none⟩ (.int .i64 (k + 1 : Nat)) := by
  have hc := hbox.cell
  have hf := hbox.free
  go_enter Try.func109, Try.ntmps109
  go_wp2
  go_ret
  exact ⟨rfl, rfl⟩

set_option maxHeartbeats 1000000 in
theorem implCountS_any (n : Int) (v : Value) (xs : List Int) (w : World) (h : RdI w v xs) :
    Calls Try.prog 51 #[.int .i64 n, v] w fun e w' => e = .returned (.tuple #[.int .i64 (csN n xs), .bool (csOk n xs)]) ∧ Below w.heap.size w w' := by
  have hsq := Lib.hid (isSquare_any n 4 (by omega) v xs w h)
  obtain ⟨a, c, rfl⟩ := h.shape
  have HS := Lib.hid h
  clear h
  go_enter Try.func51, Try.ntmps51
  go_wp2_with fail
  refine hsq.out.mono ?_
  rintro e w' ⟨⟨hok, rfl⟩ | ⟨hok, rfl⟩, rfl⟩
  · obtain ⟨N, rfl, h1, h5, h4, hl, hr, hall⟩ := hok.good (by omega)
    have HOK := Lib.hid ((csOk_iff _ _).2 hok)
    have HL := Lib.hid hl
    have HR := Lib.hid hr
    have HM := Lib.hid (isols_576 h1 (by omega) hl hr)
    clear hok hl hr hsq hall
    go_wp2_with fail
    refine (eachSquare_any N h1 h5 true 576 109 Try.entersCS #[.pointer (some ⟨w.heap.size, 0, none⟩)] (w.heap.size + 1) (· = w.heap.size) (by omega)
      (fun done w' => Box w' w.heap.size 2 (.int .i64 (done.length : Int)) ∧ w.heap.size < w'.heap.size ∧ Below w.heap.size w w') ?_ ?_ (N * N) a c xs _ [] xs.length 0 (by omega) rfl HL.out HR.out ?_ ?_ ?_ ?_ ?_).mono ?_
    · rintro done w1 w2 ⟨hb, hlt, hbl⟩ h12
      exact ⟨hb.below h12 hlt, by have := h12.size; omega, hbl.trans (h12.mono (by omega))⟩
    · rintro done s a cap m w1 _ _ _ hlen ⟨hb, hlt, hbl⟩
      refine (countS1_any _ _ _ w1 (by simp at hlen; omega) hb).mono ?_
      rintro e w2 ⟨rfl, rfl⟩
      refine ⟨rfl, ⟨?_, by simpa using hlt, hbl.setCell (Nat.le_refl _) _⟩, Kept.setCell (S := (· = w.heap.size)) (Kept.refl _ _) (.inr rfl) _⟩
      have := hb.set (.int .i64 ((done.length + 1 : Nat) : Int))
      simpa using this
    · simp
    · intro e
      have := Nat.mul_le_mul h1 h1
      omega
    · intro w' hk
      refine HS.out.up ((((Below.refl w.heap.size w).alloc (Nat.le_refl _) _).trans (hk.toBelow (by simp) (by intro k h1 h2; omega)))) (Nat.le_refl _)
    · exact ⟨by simpa using Box.new w 2 (.int .i64 0), by simp, (Below.refl _ _).alloc (Nat.le_refl _) _⟩
    · simpa [visS] using HM.out
    · rintro e w1 ⟨rfl, ⟨hb, hlt, hbl⟩, hk⟩
      simp only [List.nil_append, visS, if_true] at hb
      have hc := hb.cell
      have HB := Lib.hid hbl
      clear hbl hb hk
      go_wp2_with fail
      go_ret2
      have e2 : csN (N : Int) xs = ((isols N (N * N) xs 0).length : Nat) := by unfold csN; rw [if_pos HOK.out]; simp
      exact ⟨by rw [e2, HOK.out]; rfl, HB.out⟩
  · have HOK := Lib.hid (show csOk n xs = false by rw [← Bool.not_eq_true, csOk_iff]; exact hok)
    clear hok hsq
    go_wp2_with fail
    go_ret2
    have e2 : csN n xs = 0 := by unfold csN; rw [HOK.out]; rfl
    exact ⟨by rw [e2, HOK.out]; rfl, Below.refl _ _⟩

end Go.Proofs.Ytkcpncaedocdnaa
