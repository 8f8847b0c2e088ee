/-
  The two tables of unicode utf8 as a row's list gives them to the walks; ValidString's contract. Condition: the tables stand in memory.
-/
import Derived.Test.YtpolpihgclemnaaDoorLaidWorld
namespace Go.Proofs.YtpolpihgclemnaaDoor
open Go.RowKit Go.Lib Go.Shelf

end Go.Proofs.YtpolpihgclemnaaDoor
