import Derived.Test.YtilgbekffbphgaaGreatHcI
namespace Go.Proofs.YtilgbekffbphgaaGreat
open Go.RowKit
end Go.Proofs.YtilgbekffbphgaaGreat
