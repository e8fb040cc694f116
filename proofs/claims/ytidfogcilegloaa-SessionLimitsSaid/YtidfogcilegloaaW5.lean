import Derived.Test.YtidfogcilegloaaW4
namespace Go.Proofs.Ytidfogcilegloaa
open Go.RowKit

end Go.Proofs.Ytidfogcilegloaa
