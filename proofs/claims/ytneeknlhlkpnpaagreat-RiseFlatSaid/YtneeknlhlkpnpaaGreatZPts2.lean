import Derived.Test.YtneeknlhlkpnpaaGreatZPts1
import Derived.Test.YtneeknlhlkpnpaaGreatZWeb
/-
 forest.Parts: the High angles joined. (Printed by partsgen.py.) Written by an AI agent.
-/
namespace Go.Proofs.YtneeknlhlkpnpaaGreat
open Go.RowKit Go.Maps
end Go.Proofs.YtneeknlhlkpnpaaGreat
namespace Go.Proofs.YtneeknlhlkpnpaaGreat
open Go.RowKit Go.Maps
end Go.Proofs.YtneeknlhlkpnpaaGreat
namespace Go.Proofs.YtneeknlhlkpnpaaGreat
open Go.RowKit Go.Maps
end Go.Proofs.YtneeknlhlkpnpaaGreat
