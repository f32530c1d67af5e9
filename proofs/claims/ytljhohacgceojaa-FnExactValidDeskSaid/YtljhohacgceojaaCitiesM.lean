/-
  Ways between cities: which lists are such, in plain Lean.
-/
import Derived.Test.YtljhohacgceojaaCities
namespace Go.Proofs.Ytljhohacgceojaa
open Go.RowKit

def symB (n : Nat) (xs : List Int) (i k : Nat) : Bool := (xs.getD (i * n + k) 0 == xs.getD (k * n + i) 0) && (!(i == k) || xs.getD (i * n + k) 0 == 0)
def areCitiesB (xs : List Int) : Bool := decide (0 ≤ citN xs.length) && (allIn 0 1000 xs && allB (citN xs.length).toNat (fun i => allB (i + 1) (fun k => symB (citN xs.length).toNat xs i k)))

theorem citF_spec (L : Nat) : ∀ f n, (citF L f n = -1 ∧ ∀ j, n ≤ j → j < n + f → j * j ≠ L) ∨ ∃ j : Nat, citF L f n = (j : Int) ∧ n ≤ j ∧ j < n + f ∧ j * j = L
  | 0, n => .inl ⟨rfl, fun j h1 h2 => by omega⟩
  | f + 1, n => by
    have ih := citF_spec L f (n + 1)
    unfold citF
    by_cases h : n * n = L
    · right
      refine ⟨n, ?_, by omega, by omega, h⟩
      rw [if_pos]
      simp only [beq_iff_eq]
      rw [← h]; push_cast; rfl
    · rw [if_neg (by simp only [beq_iff_eq]; intro e; apply h; have e2 : (L : Int) = ((n * n : Nat) : Int) := by rw [e]; push_cast; rfl
                     omega)]
      rcases ih with ⟨h1, h2⟩ | ⟨j, h1, h2, h3, h4⟩
      · left
        refine ⟨h1, fun j h3 h4 => ?_⟩
        by_cases e : j = n
        · subst e; exact h
        · exact h2 j (by omega) (by omega)
      · exact .inr ⟨j, h1, by omega, by omega, h4⟩
theorem citN_cases (L : Nat) : (citN L = -1 ∧ ∀ j, 1 ≤ j → j ≤ 10 → j * j ≠ L) ∨ ∃ j : Nat, citN L = (j : Int) ∧ 1 ≤ j ∧ j ≤ 10 ∧ j * j = L := by
  rcases citF_spec L 10 1 with ⟨h1, h2⟩ | ⟨j, h1, h2, h3, h4⟩
  · exact .inl ⟨h1, fun j a b => h2 j a (by omega)⟩
  · exact .inr ⟨j, h1, h2, by omega, h4⟩
theorem citN_eq {L n : Nat} (h1 : 1 ≤ n) (h2 : n ≤ 10) (h : n * n = L) : citN L = (n : Int) := by
  rcases citN_cases L with ⟨_, h3⟩ | ⟨j, h3, _, _, h4⟩
  · exact absurd h (h3 n h1 h2)
  · rw [h3]
    have : j = n := Nat.mul_self_inj.1 (by omega)
    omega
theorem symB_symm {n : Nat} {xs : List Int} {i k : Nat} (h : symB n xs i k = true) : symB n xs k i = true := by
  unfold symB at h ⊢
  simp only [Bool.and_eq_true, beq_iff_eq, Bool.or_eq_true, Bool.not_eq_true', beq_eq_false_iff_ne] at h ⊢
  obtain ⟨h1, h2⟩ := h
  refine ⟨h1.symm, ?_⟩
  rcases h2 with h2 | h2
  · exact .inl (Ne.symm h2)
  · right; omega
theorem symAll {n : Nat} {xs : List Int} : allB n (fun i => allB (i + 1) (fun k => symB n xs i k)) = true ↔ ∀ i k, i < n → k < n → symB n xs i k = true := by
  rw [allB_iff]
  constructor
  · intro h i k hi hk
    by_cases hik : k ≤ i
    · exact allB_iff.1 (h i hi) k (by omega)
    · exact symB_symm (allB_iff.1 (h k hk) i (by omega))
  · intro h i hi
    exact allB_iff.2 fun k hk => h i k hi (by omega)
theorem inAll {n : Nat} {xs : List Int} (hn : xs.length = n * n) : allIn 0 1000 xs = true ↔ ∀ i k, i < n → k < n → inB 0 1000 (xs.getD (i * n + k) 0) = true := by
  rw [allIn_iff]
  constructor
  · intro h i k hi hk
    refine h _ ?_
    rw [hn]
    have : (i + 1) * n ≤ n * n := Nat.mul_le_mul_right _ hi
    rw [Nat.add_mul] at this
    omega
  · intro h i hi
    have hn0 : 0 < n := by
      rcases Nat.eq_zero_or_pos n with e | e
      · subst e; omega
      · exact e
    have := h (i / n) (i % n) (by rw [Nat.div_lt_iff_lt_mul hn0]; omega) (Nat.mod_lt _ hn0)
    rwa [Nat.mul_comm, Nat.div_add_mod] at this
/-- The reference's test. -/
theorem areCities_spec {n : Nat} {xs : List Int} (h1 : 1 ≤ n) (h2 : n ≤ 10) (hn : n * n = xs.length) : areCitiesB xs = allB n (fun i => allB n (fun k => inB 0 1000 (xs.getD (i * n + k) 0) && symB n xs i k)) := by
  unfold areCitiesB
  rw [citN_eq h1 h2 hn, Int.toNat_natCast, show decide ((0 : Int) ≤ (n : Int)) = true by simp, Bool.true_and, Bool.eq_iff_iff, Bool.and_eq_true, inAll hn.symm, symAll, allB_iff]
  constructor
  · rintro ⟨a, b⟩ i hi
    exact allB_iff.2 fun k hk => by rw [a i k hi hk, b i k hi hk]; rfl
  · intro h
    have h' := fun i k hi hk => Bool.and_eq_true_iff.1 (allB_iff.1 (h i hi) k hk)
    exact ⟨fun i k hi hk => (h' i k hi hk).1, fun i k hi hk => (h' i k hi hk).2⟩
theorem areCities_not {xs : List Int} (h : ∀ j, 1 ≤ j → j ≤ 10 → j * j ≠ xs.length) : areCitiesB xs = false := by
  rcases citN_cases xs.length with ⟨h1, _⟩ | ⟨j, _, a, b, c⟩
  · unfold areCitiesB; rw [h1]; rfl
  · exact absurd c (h j a b)

end Go.Proofs.Ytljhohacgceojaa
