/- The live question. -/
import Derived.Test.YtjbnomkajfmlpaaEP9
namespace Go.Proofs.Ytjbnomkajfmlpaa.E
open Go Go.RowKit Go.Proofs
theorem alive : PSpec Try.prog 11 [] (.bool true) := good 10 10 11 [] _ (by kernel_rfl)
#print axioms alive
end Go.Proofs.Ytjbnomkajfmlpaa.E
