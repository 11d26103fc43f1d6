import Derived.Test.YtccinfmphkihoaaFb
import Derived.Test.YtccinfmphkihoaaGm
namespace Go.Proofs.Ytccinfmphkihoaa
open Go.RowKit Go.Sort
-- left out in this seat
end Go.Proofs.Ytccinfmphkihoaa
