import Derived.Test.YtppfplhbfgjjhaaDoorM8
namespace Go.Proofs.YtppfplhbfgjjhaaDoor
open Go.RowKit Go.Sort
-- left out in this seat
end Go.Proofs.YtppfplhbfgjjhaaDoor
