/-
  Rising lists, by the program.
-/
import Derived.Test.YtkmbkjbammpdhaaAllIn
namespace Go.Proofs.Ytkmbkjbammpdhaa
open Go.RowKit

end Go.Proofs.Ytkmbkjbammpdhaa
