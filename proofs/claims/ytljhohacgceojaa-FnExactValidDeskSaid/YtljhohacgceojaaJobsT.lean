/-
  Jobs: measured, and made anew.
-/
import Derived.Test.YtljhohacgceojaaMarkJ
import Derived.Test.YtljhohacgceojaaPredL
import Derived.Test.YtljhohacgceojaaFlat
namespace Go.Proofs.Ytljhohacgceojaa
open Go.RowKit

set_option maxHeartbeats 400000 in
theorem szJ_any (v : Value) (js : List JobD) (left : Int) (w : World) (h : RdJ w v js) (h1 : left ≤ 1048576) (h0 : 0 ≤ left) :
    Calls Try.prog 76 #[v, .int .i64 left] w fun e w' => ∃ r : Int, e = .returned (.int .i64 r) ∧ -1 ≤ r ∧ r ≤ left ∧ (0 ≤ r → (bulkJ js : Int) ≤ left - r) ∧ Below w.heap.size w w' := by
  obtain ⟨a, c, rfl⟩ := h.shape
  have hl := h.len
  unfold maxLen at hl
  unfold bulkJ
  clear h
  by_cases hn : left - js.length < 0
  · go_enter Try.func76, Try.ntmps76
    go_wp2_with fail
    go_ret
    exact ⟨-1, rfl, by omega, by omega, by omega, Below.refl _ _⟩
  · go_enter Try.func76, Try.ntmps76
    go_wp2_with fail
    go_ret
    exact ⟨left - js.length, rfl, by omega, by omega, by omega, Below.refl _ _⟩

set_option maxHeartbeats 400000 in
theorem toJob_any (j : JobD) (w : World) :
    Calls Try.prog 117 #[jobV j] w fun e w' => e = .returned (jobV j) ∧ Below w.heap.size w w' := by
  obtain ⟨a, b, c, d⟩ := j
  unfold jobV
  simp only
  go_enter Try.func117, Try.ntmps117
  go_wp2_with fail
  refine bodyPost_ret (v := .agg #[.int .i64 a, .int .i64 b, .int .i64 c, .int .i64 d]) (by simp [results, Try.results117, go_sem]) rfl ⟨rfl, ?_⟩
  (repeat' first | exact Below.refl _ _ | assumption | refine Below.alloc ?_ ?_ _ | refine Below.setCell ?_ ?_ _ | refine Below.drew ?_ | (simp; done) | (simp; omega))

theorem Try.infoJob : (Try.prog.info? 107).map (fun i => (i.zero, i.size, i.bytes)) = some (some (.agg #[.int .i64 0, .int .i64 0, .int .i64 0, .int .i64 0]), 4, 32) := by kernel_rfl

theorem jobsC_zeros (n : Nat) : jobsC (List.replicate n J0) = (madeCells (Value.agg #[.int .i64 0, .int .i64 0, .int .i64 0, .int .i64 0]).cells (n * 4)).toList := by
  exact (flat_made jobCells J0 n (by simp [jobCells])).symm

set_option maxHeartbeats 1000000 in
theorem toJ_any (v : Value) (js : List JobD) (w : World) (h : RdJ w v js) (hb : bulkJ js ≤ 1048576) :
    Calls Try.prog 81 #[v] w fun e w' => ∃ v', e = .returned v' ∧ OwnJ w.heap.size w'.heap.size w' v' js ∧ Below w.heap.size w w' := by
  obtain ⟨i0, hi, hz0, hz1, hz2⟩ := info_parts Try.infoJob
  obtain ⟨a, c, rfl⟩ := h.shape
  unfold bulkJ at hb
  have HS := Lib.hid h
  clear h
  go_enter Try.func81, Try.ntmps81
  go_wp2_with (at_make; refine wpList_make_full _ rfl _ _ 67 rfl w.heap.size 107 i0 (.agg #[.int .i64 0, .int .i64 0, .int .i64 0, .int .i64 0]) 4 Try.underlying67 hi hz0 hz1 .i64 .i64 js.length js.length js.length rfl rfl rfl rfl (by rw [hz2]; omega) (by unfold maxLen; omega) (by simp) ?_; intro w1 hown hgrow)
  have hb1 : Below w.heap.size w w1 := (Below.refl _ _).grown hgrow (Nat.le_refl _) (by intro k hk; cases hk)
  rw [← jobsC_zeros] at hown
  have HO := Lib.hid hown
  have HB := Lib.hid hb1
  clear hown hb1 hgrow
  go_loopw [4] (fun i wr => ∃ k : Nat, i = .int .i64 k ∧ k ≤ js.length ∧ wr.ownsRow w.heap.size 107 4 (.slice (some ⟨w.heap.size, 0, none⟩) js.length js.length) js.length (jobsC (js.take k ++ List.replicate (js.length - k) J0)) ∧ Below w.heap.size w wr) (fun i _ => js.length - (intOf i).toNat)
  case atStart => exact ⟨0, rfl, Nat.zero_le _, by simpa using HO.out, HB.out⟩
  case round =>
    obtain ⟨k, rfl, hk, hown, hbel⟩ := hrel
    have HO1 := Lib.hid hown
    have HB1 := Lib.hid hbel
    clear hown hbel
    by_cases hlt : k < js.length
    · obtain ⟨b, off, rfl, hb0, x0, x1, x2, x3⟩ := (HS.out.up HB1.out (Nat.le_refl _)).at hlt
      obtain ⟨j, hj⟩ : ∃ j, j = js.getD k J0 := ⟨_, rfl⟩
      rw [← hj] at x0 x1 x2 x3
      have HJ := Lib.hid hj
      clear hj
      go_wp2_with fail
      refine (toJob_any j wr).mono ?_
      rintro e w2 ⟨rfl, hb2⟩
      have HO2 := Lib.hid (ownsK_below HO1.out hb2 (Nat.le_refl _))
      have HB2 := Lib.hid (HB1.out.trans (hb2.mono HB1.out.size))
      have hlen : (js.take k ++ List.replicate (js.length - k) J0).length = js.length := by simp; omega
      have d0 := HO2.out.cellAt (k * 4) (by omega)
      have d1 := HO2.out.cellAt (k * 4 + 1) (by omega)
      have d2 := HO2.out.cellAt (k * 4 + 2) (by omega)
      have d3 := HO2.out.cellAt (k * 4 + 3) (by omega)
      have hz : (js.take k ++ List.replicate (js.length - k) J0).getD k J0 = J0 := by
        rw [List.getD_eq_getElem?_getD, List.getElem?_append_right (by simp; omega)]
        rw [List.getElem?_replicate, if_pos (by simp; omega)]
        rfl
      have e0 := jobsC_at (js.take k ++ List.replicate (js.length - k) J0) k 0 (by omega) (by omega)
      rw [Nat.add_zero] at e0
      rw [e0, hz] at d0
      rw [jobsC_at _ k 1 (by omega) (by omega), hz] at d1
      rw [jobsC_at _ k 2 (by omega) (by omega), hz] at d2
      rw [jobsC_at _ k 3 (by omega) (by omega), hz] at d3
      simp only [J0, jobCells, List.getElem?_cons_zero, List.getElem?_cons_succ, I64] at d0 d1 d2 d3
      have f0 := HO2.out.frozenAt (k * 4)
      have f1 := HO2.out.frozenAt (k * 4 + 1)
      have f2 := HO2.out.frozenAt (k * 4 + 2)
      have f3 := HO2.out.frozenAt (k * 4 + 3)
      have HST := Lib.hid ((((HO2.out.stored (k * 4) (.int .i64 j.long)).1.stored (k * 4 + 1) (.int .i64 j.due)).1.stored (k * 4 + 2) (.int .i64 j.weight)).1.stored (k * 4 + 3) (.int .i64 j.ready)).1
      have HJC := Lib.hid (jobsC_set (js.take k ++ List.replicate (js.length - k) J0) k j.long j.due j.weight j.ready (by omega))
      have HLT := Lib.hid (set_mid (js.take k) (List.replicate (js.length - (k + 1)) J0) J0 j k (by simp; omega))
      clear e0 hlen hz hb2
      unfold jobV
      go_wp2_with fail
      go_roundw
      case rel =>
        refine ⟨k + 1, by go_num, by omega, ?_, (((HB2.out.setCell (Nat.le_refl _) _).setCell (Nat.le_refl _) _).setCell (Nat.le_refl _) _).setCell (Nat.le_refl _) _⟩
        have h1 := HST.out
        have h2 := HJC.out
        unfold I64 at h2
        rw [h2, show js.length - k = (js.length - (k + 1)) + 1 by omega, List.replicate_succ, HLT.out] at h1
        have e : js.take (k + 1) = js.take k ++ [j] := by rw [List.take_succ_eq_append_getElem hlt, HJ.out]; simp [hlt]
        rw [e, List.append_assoc]
        exact h1
      case measure => simp [intOf]; omega
    · obtain rfl : k = js.length := by omega
      go_wp2_with fail
      go_ret
      refine ⟨_, rfl, ?_, HB1.out⟩
      have := HO1.out
      simp at this
      exact OwnJ.mk this

end Go.Proofs.Ytljhohacgceojaa
