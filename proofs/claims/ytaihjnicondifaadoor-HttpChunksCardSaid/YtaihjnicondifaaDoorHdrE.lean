/-
  Contracts: the reference's Valid and Simple.
  Lengths within the rows' own reach.
-/
import Derived.Test.YtaihjnicondifaaDoorHdrD
namespace Go.Proofs.YtaihjnicondifaaDoor.Asc
open Go Go.RowKit Go.Proofs.YtaihjnicondifaaDoor.Pb

end Go.Proofs.YtaihjnicondifaaDoor.Asc
