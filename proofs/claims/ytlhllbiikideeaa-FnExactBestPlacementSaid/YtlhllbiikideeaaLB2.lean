/- The order of a stable sort by a key from 9 down to 1: what one more element does; no condition. -/
import Derived.Test.YtlhllbiikideeaaL0
namespace Go.Proofs.Ytlhllbiikideeaa.Sh
open Go.RowKit
end Go.Proofs.Ytlhllbiikideeaa.Sh
