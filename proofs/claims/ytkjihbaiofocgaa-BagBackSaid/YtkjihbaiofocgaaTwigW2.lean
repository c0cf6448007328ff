/- The walks of layer 2, on: twig.Above, Meet, Graft, Prune, each once, by what it computes. By the prover of this repo. -/
import Derived.Test.YtkjihbaiofocgaaTwigW
namespace Go.Proofs.Ytkjihbaiofocgaa
open Go.RowKit
open TwigM

end Go.Proofs.Ytkjihbaiofocgaa
