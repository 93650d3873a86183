/-
  Reading arguments: helpers over any program.
-/
import Derived.Test.YtmipapfanelheaaKit
import Derived.ProofKit
import Derived.OpenShut
namespace Go.Proofs.Ytmipapfanelheaa
open Go.RowKit
end Go.Proofs.Ytmipapfanelheaa
