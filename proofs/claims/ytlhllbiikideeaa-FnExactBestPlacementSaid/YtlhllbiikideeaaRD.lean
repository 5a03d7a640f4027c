/- The bounds of the laws' parameters; no condition. -/
import Derived.Test.YtlhllbiikideeaaR1
import Derived.Test.YtlhllbiikideeaaGA
namespace Go.Proofs.Ytlhllbiikideeaa.Sh
open Go.RowKit
structure okPoint (x : Point) : Prop where
  X : okI x.X
  Y : okI x.Y
structure okLabel (x : Label) : Prop where
  At : okPoint x.At
  Length : okI x.Length
  Priority : okI x.Priority
end Go.Proofs.Ytlhllbiikideeaa.Sh
