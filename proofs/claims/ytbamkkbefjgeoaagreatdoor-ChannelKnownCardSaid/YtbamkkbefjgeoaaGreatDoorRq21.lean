/- Words and moduli of the towers: contracts. Put together by a program of ours. -/
import Derived.Test.YtbamkkbefjgeoaaGreatDoorRq11
import Derived.Test.YtbamkkbefjgeoaaGreatDoorRq07
namespace Go.Rq.Cl
open Go Go.Proofs Go.Rq Go.Rq.Sm

/-! The sum of two numbers. -/
/-! Twice a number. -/
/-! Is it none? -/
/-! The modulus taken away, if it goes. -/
/-! The product, by 2^-384. -/
/-! What is left. -/
/-! The difference of two numbers. -/
/-! Products. -/
/-! Sums. -/
/-! Differences. -/
end Go.Rq.Cl
