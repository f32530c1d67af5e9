/-
  Counting squares.
-/
import Derived.Test.YtoeofmgnnfoicaaEachS
import Derived.Test.YtoeofmgnnfoicaaSquare4
namespace Go.Proofs.Ytoeofmgnnfoicaa
open Go.RowKit

theorem CellsOk.good {n top : Int} {xs : List Int} (ht : top ≤ 5) (h : CellsOk n top xs) : ∃ N : Nat, n = N ∧ 1 ≤ N ∧ N ≤ 5 ∧ (N : Int) ≤ top ∧ xs.length = N * N ∧ (∀ v ∈ xs, 0 ≤ v ∧ v ≤ N) ∧ allIn 0 N xs = true := by
  obtain ⟨⟨h1, h2⟩, h3, h4⟩ := h
  obtain ⟨N, rfl⟩ := Int.eq_ofNat_of_zero_le (by omega : 0 ≤ n)
  refine ⟨N, rfl, by omega, by omega, h2, by exact_mod_cast h3, fun v hv => ?_, h4⟩
  obtain ⟨i, hi, rfl⟩ := List.mem_iff_getElem.1 hv
  have := (allIn_iff _ _ _).1 h4 i hi
  simpa [inB, hi] using this

theorem isols_unfit {n : Nat} {xs : List Int} (hn : 0 < n) (hl : xs.length = n * n) (hr : allIn 0 n xs = true) (hf : cellsFit n xs = false) : isols n (n * n) xs 0 = [] := by
  have hng : ¬ GoodSq n xs := fun h => by rw [(cellsFit_iff hn hl hr).2 h] at hf; cases hf
  by_cases hex : ∃ p q, Peer n p q ∧ xs.getD p 0 ≠ 0 ∧ xs.getD p 0 = xs.getD q 0
  · obtain ⟨p, q, hp, h1, h2⟩ := hex
    refine isols_bad n hn p q hp (n * n) xs 0 (by omega) (Nat.zero_le _) hl ?_ h2
    have hpl : p < xs.length := by rw [hl]; exact hp.2.1
    have := (allIn_iff _ _ _).1 hr p hpl
    simp [inB] at this
    simp at h1 ⊢
    omega
  · exfalso
    apply hng
    refine ⟨hl, fun v hv => ?_, fun p q hp h1 h2 => hex ⟨p, q, hp, h1, h2⟩⟩
    obtain ⟨i, hi, rfl⟩ := List.mem_iff_getElem.1 hv
    have := (allIn_iff _ _ _).1 hr i hi
    simpa [inB, hi] using this

theorem isols_fit {n : Nat} {xs : List Int} (hn : 0 < n) (hl : xs.length = n * n) (hr : allIn 0 n xs = true) (hf : cellsFit n xs = true) : isols n (n * n) xs 0 = ssols n (n * n) xs 0 :=
  isols_eq n hn (n * n) xs 0 (by omega) ((cellsFit_iff hn hl hr).1 hf)

theorem isols_576 {n : Nat} {xs : List Int} (hn : 1 ≤ n) (hn4 : n ≤ 4) (hl : xs.length = n * n) (hr : ∀ v ∈ xs, 0 ≤ v ∧ v ≤ n) : (isols n (n * n) xs 0).length ≤ 576 := by
  refine Nat.le_trans (isols_le n hn (n * n) xs (List.replicate (n * n) 0) 0 (by omega) hl (by simp) hr (fun j hj => by omega) (fun j _ => ?_)) (squares4 n hn hn4)
  simp [List.getElem?_replicate]
  split <;> rfl

theorem msols_all {n most f : Nat} {sq : List Int} {i : Nat} (h : (ssols n f sq i).length < most) : msols n most f sq i = ssols n f sq i := by
  obtain ⟨h1, h2⟩ := msols_pre n most f sq i
  rcases h2 with h2 | h2
  · exact h2
  · have := h1.length_le
    omega
theorem msols_head {n most f : Nat} {sq : List Int} {i : Nat} (h : 1 ≤ most) : (msols n most f sq i).head? = (ssols n f sq i).head? := by
  obtain ⟨h1, h2⟩ := msols_pre n most f sq i
  rcases h2 with h2 | h2
  · rw [h2]
  · obtain ⟨m, hm⟩ := h1
    rw [← hm]
    cases hq : msols n most f sq i with
    | nil => rw [hq] at h2; simp at h2; omega
    | cons s r => rfl

/-- What is returned. -/
def csOk (n : Int) (xs : List Int) : Bool := decide ((1 ≤ n ∧ n ≤ 4) ∧ (xs.length : Int) = n * n ∧ allIn 0 n xs = true)
def csN (n : Int) (xs : List Int) : Int := if csOk n xs = true then ((isols n.toNat (n.toNat * n.toNat) xs 0).length : Nat) else 0
theorem csOk_iff (n : Int) (xs : List Int) : csOk n xs = true ↔ CellsOk n 4 xs := by unfold csOk CellsOk; simp

theorem Try.entersCS (args : Array Value) (w : World) : (callFunc 49 args).run Try.prog w = .ok (.enter 49 args) w :=
  enters_of Try.func49 (by kernel_rfl) rfl args w

/-- The closure that counts. -/
theorem countS1_any (v : Value) (cb k : Nat) (w : World) (hk : k ≤ 16777216) (hbox : Box w cb 2 (.int .i64 k)) :
    Calls Try.prog 49 #[v, .pointer (some ⟨cb, 0, none⟩)] w fun e w' => e = .returned (.bool true) ∧ w' = w.setCell ⟨cb, 0, none⟩ (.int .i64 (k + 1 : Nat)) := by
  have hc := hbox.cell
  have hf := hbox.free
  go_enter Try.func49, Try.ntmps49
  go_wp2
  go_ret
  exact ⟨rfl, rfl⟩

set_option maxHeartbeats 1000000 in
theorem implCountS_any (n : Int) (v : Value) (xs : List Int) (w : World) (h : RdI w v xs) :
    Calls Try.prog 30 #[.int .i64 n, v] w fun e w' => e = .returned (.tuple #[.int .i64 (csN n xs), .bool (csOk n xs)]) ∧ Below w.heap.size w w' := by
  have hsq := Lib.hid (isSquare_any n 4 (by omega) v xs w h)
  obtain ⟨a, c, rfl⟩ := h.shape
  have HS := Lib.hid h
  clear h
  go_enter Try.func30, Try.ntmps30
  go_wp2_with fail
  refine hsq.out.mono ?_
  rintro e w' ⟨⟨hok, rfl⟩ | ⟨hok, rfl⟩, rfl⟩
  · obtain ⟨N, rfl, h1, h5, h4, hl, hr, hall⟩ := hok.good (by omega)
    have HOK := Lib.hid ((csOk_iff _ _).2 hok)
    have HL := Lib.hid hl
    have HR := Lib.hid hr
    have HM := Lib.hid (isols_576 h1 (by omega) hl hr)
    clear hok hl hr hsq hall
    go_wp2_with fail
    refine (eachSquare_any N h1 h5 true 576 49 Try.entersCS #[.pointer (some ⟨w.heap.size, 0, none⟩)] (w.heap.size + 1) (· = w.heap.size) (by omega)
      (fun done w' => Box w' w.heap.size 2 (.int .i64 (done.length : Int)) ∧ w.heap.size < w'.heap.size ∧ Below w.heap.size w w') ?_ ?_ (N * N) a c xs _ [] xs.length 0 (by omega) rfl HL.out HR.out ?_ ?_ ?_ ?_ ?_).mono ?_
    · rintro done w1 w2 ⟨hb, hlt, hbl⟩ h12
      exact ⟨hb.below h12 hlt, by have := h12.size; omega, hbl.trans (h12.mono (by omega))⟩
    · rintro done s a cap m w1 _ _ _ hlen ⟨hb, hlt, hbl⟩
      refine (countS1_any _ _ _ w1 (by simp at hlen; omega) hb).mono ?_
      rintro e w2 ⟨rfl, rfl⟩
      refine ⟨rfl, ⟨?_, by simpa using hlt, hbl.setCell (Nat.le_refl _) _⟩, Kept.setCell (S := (· = w.heap.size)) (Kept.refl _ _) (.inr rfl) _⟩
      have := hb.set (.int .i64 ((done.length + 1 : Nat) : Int))
      simpa using this
    · simp
    · intro e
      have := Nat.mul_le_mul h1 h1
      omega
    · intro w' hk
      refine HS.out.up ((((Below.refl w.heap.size w).alloc (Nat.le_refl _) _).trans (hk.toBelow (by simp) (by intro k h1 h2; omega)))) (Nat.le_refl _)
    · exact ⟨by simpa using Box.new w 2 (.int .i64 0), by simp, (Below.refl _ _).alloc (Nat.le_refl _) _⟩
    · simpa [visS] using HM.out
    · rintro e w1 ⟨rfl, ⟨hb, hlt, hbl⟩, hk⟩
      simp only [List.nil_append, visS, if_true] at hb
      have hc := hb.cell
      have HB := Lib.hid hbl
      clear hbl hb hk
      go_wp2_with fail
      go_ret2
      have e2 : csN (N : Int) xs = ((isols N (N * N) xs 0).length : Nat) := by unfold csN; rw [if_pos HOK.out]; simp
      exact ⟨by rw [e2, HOK.out]; rfl, HB.out⟩
  · have HOK := Lib.hid (show csOk n xs = false by rw [← Bool.not_eq_true, csOk_iff]; exact hok)
    clear hok hsq
    go_wp2_with fail
    go_ret2
    have e2 : csN n xs = 0 := by unfold csN; rw [HOK.out]; rfl
    exact ⟨by rw [e2, HOK.out]; rfl, Below.refl _ _⟩

set_option maxHeartbeats 1000000 in
theorem specCountS_any (n : Int) (v : Value) (xs : List Int) (w : World) (h : RdI w v xs) :
    Calls Try.prog 28 #[.int .i64 n, v] w fun e w' => e = .returned (.tuple #[.int .i64 (csN n xs), .bool (csOk n xs)]) ∧ Below w.heap.size w w' := by
  have hsq := Lib.hid (l07Cells_any n 4 (by omega) v xs w h)
  obtain ⟨a, c, rfl⟩ := h.shape
  have HS := Lib.hid h
  clear h
  go_enter Try.func28, Try.ntmps28
  go_wp2_with fail
  refine hsq.out.mono ?_
  rintro e w' ⟨⟨hok, rfl⟩ | ⟨hok, rfl⟩, rfl⟩
  · obtain ⟨N, rfl, h1, h5, h4, hl, hr, hall⟩ := hok.good (by omega)
    have HOK := Lib.hid ((csOk_iff _ _).2 hok)
    rw [Int.toNat_natCast]
    by_cases hf : cellsFit N xs = true
    · have HE := Lib.hid (isols_fit h1 hl hall hf)
      have HM := Lib.hid (isols_576 h1 (by omega) hl hr)
      rw [hf]
      have HL := Lib.hid hl
      have hl25 : xs.length ≤ 25 := by rw [hl]; exact Nat.mul_le_mul h5 h5
      clear hok hl hr hsq hall hf
      obtain ⟨W3, hW3⟩ : ∃ W3, W3 = ((w.alloc (.cells #[] 2)).alloc (.cells #[.slice (some ⟨w.heap.size, 0, none⟩) 0 0] 25)).alloc (.cells #[] 2) := ⟨_, rfl⟩
      have HWB := Lib.hid (show Below w.heap.size w W3 by subst hW3; exact (((Below.refl w.heap.size w).alloc (Nat.le_refl _) _).alloc (by simp) _).alloc (by simp; omega) _)
      have HWS := Lib.hid (show W3.heap.size = w.heap.size + 3 by subst hW3; simp)
      have HBX := Lib.hid (show Box W3 (w.heap.size + 1) 25 (.slice (some ⟨w.heap.size, 0, none⟩) 0 0) by
        subst hW3
        have := (Box.new (w.alloc (.cells #[] 2)) 25 (.slice (some ⟨w.heap.size, 0, none⟩) 0 0)).below (w' := (((w.alloc (.cells #[] 2)).alloc (.cells #[.slice (some ⟨w.heap.size, 0, none⟩) 0 0] 25)).alloc (.cells #[] 2))) ((Below.refl _ _).alloc (Nat.le_refl _) _) (by simp)
        simpa using this)
      have HOE := Lib.hid (show W3.ownsRow (w.heap.size + 2) 2 1 (.slice (some ⟨w.heap.size + 1 + 1, 0, none⟩) 0 0) 0 (([] : List Int).map I64) by
        subst hW3
        have := owns_empty ((w.alloc (.cells #[] 2)).alloc (.cells #[.slice (some ⟨w.heap.size, 0, none⟩) 0 0] 25))
        simpa using this)
      have HSL := Lib.hid (HS.out.up HWB.out (Nat.le_refl _))
      clear HS
      go_wp2_with (at_builtin; (try rw [← hW3]); refine app_own rfl _ _ rfl (w.heap.size + 2) ⟨w.heap.size + 1 + 1, 0, none⟩ 0 0 [] rfl HOE.out _ xs rfl HSL.out xs.length xs (by simp) (by simp) (by omega) (by have := HWS.out; omega) ?_; intro g cap' w1 hown hbl hg; have HOW := Lib.hid (OwnI.mk hown); have HBL := Lib.hid hbl; clear hown hbl hg)
      have hz := HBL.out.size
      have hz3 := HWS.out
      refine (l07Squares_any w1.heap.size N 1000000 h1 h5 (Nat.le_refl _) (N * N) _ (w.heap.size + 2) w1.heap.size xs 0 w1 (w.heap.size + 1) (.slice (some ⟨w.heap.size, 0, none⟩) 0 0) [] (by omega) HL.out HOW.out (HBX.out.below HBL.out (by omega)) (.inl ⟨rfl, _, _, rfl⟩) (Nat.le_refl _) (Nat.le_refl _) (.inl (by omega))).mono ?_
      rintro e w2 ⟨rfl, _, _, hk⟩
      have HB := Lib.hid ((HWB.out.trans (HBL.out.mono (by omega))).trans (hk.toBelow (by omega) (by rintro k h1 (h2 | ⟨h2, _⟩) <;> omega)))
      clear hk
      go_wp2_with fail
      go_ret2
      have e2 : csN (N : Int) xs = ((msols N 1000000 (N * N) xs 0).length : Nat) := by
        unfold csN; rw [if_pos HOK.out, Int.toNat_natCast, msols_all (by rw [← HE.out]; have := HM.out; omega), ← HE.out]
      exact ⟨by rw [e2, HOK.out]; rfl, HB.out⟩
    · rw [Bool.not_eq_true] at hf
      have HE := Lib.hid (isols_unfit h1 hl hall hf)
      rw [hf]
      clear hok hl hr hsq hall hf
      go_wp2_with fail
      go_ret2
      have e2 : csN (N : Int) xs = 0 := by unfold csN; rw [if_pos HOK.out, Int.toNat_natCast, HE.out]; rfl
      exact ⟨by rw [e2, HOK.out]; rfl, Below.refl _ _⟩
  · have HOK := Lib.hid (show csOk n xs = false by rw [← Bool.not_eq_true, csOk_iff]; exact hok)
    clear hok hsq
    go_wp2_with fail
    go_ret2
    have e2 : csN n xs = 0 := by unfold csN; rw [HOK.out]; rfl
    exact ⟨by rw [e2, HOK.out]; rfl, Below.refl _ _⟩

end Go.Proofs.Ytoeofmgnnfoicaa
