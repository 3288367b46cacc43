
/-
  Contracts: the greatest and the least number; what is cut off (Clip).
-/
import Derived.Test.YtgageljahebjnaaC9a
namespace Go.Proofs.Ytgageljahebjnaa
open Go.RowKit

end Go.Proofs.Ytgageljahebjnaa
