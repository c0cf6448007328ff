/- The walks of layer 2's reference, on: leaves, ends, ways up, and where they meet. By the prover of this repo. -/
import Derived.Test.YtkjihbaiofocgaaTwigR
namespace Go.Proofs.Ytkjihbaiofocgaa
open Go.RowKit
open TwigM

end Go.Proofs.Ytkjihbaiofocgaa
