/-
  Squares: what the two searches find, told from the cells.
-/
import Derived.Test.YtkcpncaedocdnaaEachS
namespace Go.Proofs.Ytkcpncaedocdnaa
open Go.RowKit

theorem CellsOk.good {n top : Int} {xs : List Int} (ht : top ≤ 5) (h : CellsOk n top xs) : ∃ N : Nat, n = N ∧ 1 ≤ N ∧ N ≤ 5 ∧ (N : Int) ≤ top ∧ xs.length = N * N ∧ (∀ v ∈ xs, 0 ≤ v ∧ v ≤ N) ∧ allIn 0 N xs = true := by
  obtain ⟨⟨h1, h2⟩, h3, h4⟩ := h
  obtain ⟨N, rfl⟩ := Int.eq_ofNat_of_zero_le (by omega : 0 ≤ n)
  refine ⟨N, rfl, by omega, by omega, h2, by exact_mod_cast h3, fun v hv => ?_, h4⟩
  obtain ⟨i, hi, rfl⟩ := List.mem_iff_getElem.1 hv
  have := (allIn_iff _ _ _).1 h4 i hi
  simpa [inB, hi] using this

theorem isols_unfit {n : Nat} {xs : List Int} (hn : 0 < n) (hl : xs.length = n * n) (hr : allIn 0 n xs = true) (hf : cellsFit n xs = false) : isols n (n * n) xs 0 = [] := by
  have hng : ¬ GoodSq n xs := fun h => by rw [(cellsFit_iff hn hl hr).2 h] at hf; cases hf
  by_cases hex : ∃ p q, Peer n p q ∧ xs.getD p 0 ≠ 0 ∧ xs.getD p 0 = xs.getD q 0
  · obtain ⟨p, q, hp, h1, h2⟩ := hex
    refine isols_bad n hn p q hp (n * n) xs 0 (by omega) (Nat.zero_le _) hl ?_ h2
    have hpl : p < xs.length := by rw [hl]; exact hp.2.1
    have := (allIn_iff _ _ _).1 hr p hpl
    simp [inB] at this
    simp at h1 ⊢
    omega
  · exfalso
    apply hng
    refine ⟨hl, fun v hv => ?_, fun p q hp h1 h2 => hex ⟨p, q, hp, h1, h2⟩⟩
    obtain ⟨i, hi, rfl⟩ := List.mem_iff_getElem.1 hv
    have := (allIn_iff _ _ _).1 hr i hi
    simpa [inB, hi] using this

theorem isols_fit {n : Nat} {xs : List Int} (hn : 0 < n) (hl : xs.length = n * n) (hr : allIn 0 n xs = true) (hf : cellsFit n xs = true) : isols n (n * n) xs 0 = ssols n (n * n) xs 0 :=
  isols_eq n hn (n * n) xs 0 (by omega) ((cellsFit_iff hn hl hr).1 hf)

theorem msols_all {n most f : Nat} {sq : List Int} {i : Nat} (h : (ssols n f sq i).length < most) : msols n most f sq i = ssols n f sq i := by
  obtain ⟨h1, h2⟩ := msols_pre n most f sq i
  rcases h2 with h2 | h2
  · exact h2
  · have := h1.length_le
    omega
theorem msols_head {n most f : Nat} {sq : List Int} {i : Nat} (h : 1 ≤ most) : (msols n most f sq i).head? = (ssols n f sq i).head? := by
  obtain ⟨h1, h2⟩ := msols_pre n most f sq i
  rcases h2 with h2 | h2
  · rw [h2]
  · obtain ⟨m, hm⟩ := h1
    rw [← hm]
    cases hq : msols n most f sq i with
    | nil => rw [hq] at h2; simp at h2; omega
    | cons s r => rfl

end Go.Proofs.Ytkcpncaedocdnaa
