/-
  Choices: the reference that counts them, keeps the first one and marks the numbers.
-/
import Derived.Test.YtkmbkjbammpdhaaMarks
import Derived.Test.YtkmbkjbammpdhaaEachC
namespace Go.Proofs.Ytkmbkjbammpdhaa
open Go.RowKit

theorem choi_8 {D : List (List Int)} (hD : ValD D) (f : Nat) (now : List Int) (hf : f ≤ 6) : (choi D f now).length ≤ 262144 := by
  have h1 := choi_len D (fun d hd => by
    obtain ⟨i, hi, rfl⟩ := List.getElem_of_mem hd
    have := (hD.2.2 i hi).2.1
    simpa [hi] using this) f now
  have : 8 ^ f ≤ 8 ^ 6 := Nat.pow_le_pow_right (by decide) hf
  omega

end Go.Proofs.Ytkmbkjbammpdhaa
