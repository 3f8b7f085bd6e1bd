/-
  Contracts of the small functions of ascii's reference: what each answers; memory stays.
  Texts and numbers within the row's own reach.
-/
import Derived.Test.YtaihjnicondifaaDoorAscSpec
import Derived.Test.YtaihjnicondifaaDoorProg
import Derived.Outline
namespace Go.Proofs.YtaihjnicondifaaDoor.Asc
open Go Go.RowKit Go.Proofs.YtaihjnicondifaaDoor.Pb

end Go.Proofs.YtaihjnicondifaaDoor.Asc
