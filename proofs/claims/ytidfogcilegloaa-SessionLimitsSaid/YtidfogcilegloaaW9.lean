import Derived.Test.YtidfogcilegloaaW7
namespace Go.Proofs.Ytidfogcilegloaa
open Go.RowKit

end Go.Proofs.Ytidfogcilegloaa
