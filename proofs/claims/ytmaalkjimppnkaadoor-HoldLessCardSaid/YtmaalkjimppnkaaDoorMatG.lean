/- Walks: the document's IsMatrix; the law's wideMatrix and ownMatrix. -/
import Derived.Test.YtmaalkjimppnkaaDoorMatF
import Derived.Test.YtmaalkjimppnkaaDoorOwnR
namespace Go.Proofs.YtmaalkjimppnkaaDoor
open Go.RowKit

/-- too wide for a statement. -/
def WideM (L : List (List Nat)) : Prop := 40 < L.length ∨ ∃ i, i < L.length ∧ 40 < (L[i]?.getD []).length
end Go.Proofs.YtmaalkjimppnkaaDoor
