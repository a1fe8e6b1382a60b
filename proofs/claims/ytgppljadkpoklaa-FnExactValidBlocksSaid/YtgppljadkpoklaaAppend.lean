/- One int appended to a row of the call's own, as one law for the walk. -/
import Derived.Test.YtgppljadkpoklaaInts2
namespace Go.Proofs.Ytgppljadkpoklaa
open Go.RowKit

end Go.Proofs.Ytgppljadkpoklaa
