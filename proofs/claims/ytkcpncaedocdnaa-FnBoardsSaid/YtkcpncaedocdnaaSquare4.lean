/-
  Squares of at most four rows: how many there are at most, by reckoning.
-/
import Derived.Test.YtkcpncaedocdnaaSquareM
namespace Go.Proofs.Ytkcpncaedocdnaa

theorem squares4 : ∀ n, 1 ≤ n → n ≤ 4 → (isols n (n * n) (List.replicate (n * n) 0) 0).length ≤ 576 := by
  intro n h1 h2
  rcases (by omega : n = 1 ∨ n = 2 ∨ n = 3 ∨ n = 4) with rfl | rfl | rfl | rfl
  all_goals decide +kernel

end Go.Proofs.Ytkcpncaedocdnaa
