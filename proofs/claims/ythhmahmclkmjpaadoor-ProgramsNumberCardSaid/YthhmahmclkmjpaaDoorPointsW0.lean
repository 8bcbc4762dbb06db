/- Proved: one law on worlds that keep what lies below; for all worlds. -/
import Derived.Test.YthhmahmclkmjpaaDoorCore
namespace Go.Proofs.YthhmahmclkmjpaaDoor
open Go.RowKit
/-- Below, in a row of calls. -/
theorem belowMore {w w1 w2 : World} (h : Below w.heap.size w w1) (k : Below w1.heap.size w1 w2) : Below w.heap.size w w2 := h.trans (k.mono h.size)
end Go.Proofs.YthhmahmclkmjpaaDoor
