/- Part 1 of the texts of a proof about the given program: what the statement's proof needs of them. -/
import Derived.WalkKit
namespace Go.Syn
open Go.RowKit
end Go.Syn
