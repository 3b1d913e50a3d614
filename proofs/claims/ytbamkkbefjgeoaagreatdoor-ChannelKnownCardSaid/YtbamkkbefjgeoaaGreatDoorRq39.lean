/- A closed law's functions, each gone through where it is called. Written by a program of ours. -/
import Derived.Test.YtbamkkbefjgeoaaGreatDoorRq38
namespace Go.Rq.Cl
open Go Go.Proofs Go.Rq Go.Rq.Sm
end Go.Rq.Cl

/- A closed law's functions, each gone through where it is called. Written by a program of ours. -/
namespace Go.Rq.Cl
open Go Go.Proofs Go.Rq Go.Rq.Sm

/-! reliquary/little.Add -/
/-! reliquary/suite.KeyAdd -/
/-! reliquary/proof.fits -/
/-! reliquary/proof.KnowCheck -/
end Go.Rq.Cl
