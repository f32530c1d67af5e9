/-
  Lists of lists hold their marks.
-/
import Derived.Test.YtljhohacgceojaaMarkL
namespace Go.Proofs.Ytljhohacgceojaa
open Go.RowKit

set_option maxHeartbeats 1000000 in
theorem heldL_o (v : Value) (zss : List (List Int)) (k : Int) (w : World) (h : RdL w v (mkdL k zss)) (h0 : 0 ≤ k) (h1 : k + cntL zss ≤ 1099511627776) :
    Calls Try.prog 72 #[v, .int .i64 k] w fun e w' => e = .returned (.int .i64 (k + cntL zss)) ∧ Below w.heap.size w w' := by
  obtain ⟨a, c, rfl⟩ := h.shape
  have hl := h.len
  unfold maxLen at hl
  have hln : (mkdL k zss).length = zss.length := mkP_length k zss zss.length
  rw [hln] at hl ⊢
  have HS := Lib.hid h
  rw [hln] at HS
  have HLN := Lib.hid hln
  have HC := Lib.hid h1
  clear h h1 hln
  go_enter Try.func72, Try.ntmps72
  go_wp2_with fail
  go_loopw [1, 5] (fun kk i wr => ∃ j : Nat, i = .int .i64 j ∧ j ≤ zss.length ∧ kk = .int .i64 (k + lsum (zss.take j)) ∧ Below w.heap.size w wr) (fun _ i _ => zss.length - (intOf i).toNat)
  case atStart => exact ⟨0, rfl, Nat.zero_le _, by simp [lsum], Below.refl _ _⟩
  case round =>
    obtain ⟨j, rfl, hj, rfl, hbl⟩ := hrel
    have HB := Lib.hid hbl
    clear hbl
    by_cases hlt : j < zss.length
    · obtain ⟨b, off, u, rfl, _, hc, hu⟩ := (HS.out.up HB.out (Nat.le_refl _)).at (i := j) (by rw [HLN.out]; exact hlt)
      have hat : (mkdL k zss).getD j [] = mkI (k + lsum (zss.take j)) (zss.getD j []).length := by
        have h := mkdL_at k zss zss.length j hlt hlt
        unfold mkdL
        rw [List.getD_eq_getElem?_getD, h]; rfl
      rw [hat] at hu
      have HT := Lib.hid (sum_take_succ zss j hlt)
      have HBK := Lib.hid (bulkL_le zss (j + 1))
      obtain ⟨z, hzk⟩ : ∃ z, z = (zss.getD j []).length := ⟨_, rfl⟩
      rw [← hzk] at hu HT
      obtain ⟨sm, hsm⟩ : ∃ s, s = lsum (zss.take j) := ⟨_, rfl⟩
      rw [← hsm] at hu HT ⊢
      have hbound : (sm : Int) + z ≤ cntL zss := by
        have h1 := HT.out
        have h2 := HBK.out
        unfold cntL
        unfold bulkL at h2
        omega
      have hh := Lib.hid (heldI_any u z (k + sm) wr hu (by omega) (by have := HC.out; omega))
      have HCC := HC.out
      clear hat hu hzk hsm
      go_wp2_with fail
      refine hh.out.mono ?_
      rintro e w2 ⟨rfl, hb2⟩
      have HB2 := Lib.hid (HB.out.trans (hb2.mono HB.out.size))
      clear hb2 hc
      go_wp2_with fail
      go_roundw
      case rel => exact ⟨j + 1, by go_num, by omega, by rw [HT.out]; push_cast; go_num, HB2.out⟩
      case measure => simp [intOf]; omega
    · obtain rfl : j = zss.length := by omega
      go_wp2_with fail
      go_ret
      exact ⟨by rw [List.take_length]; rfl, HB.out⟩

end Go.Proofs.Ytljhohacgceojaa
