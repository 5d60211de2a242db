/- Walks: cmp.Compare, cmp.Or of three. -/
import Derived.Test.YtgcnohejmofhkaaDoorRg
import Derived.Test.YtgcnohejmofhkaaDoorBytes
import Derived.StillTailTactics
namespace Go.Proofs.YtgcnohejmofhkaaDoor
open Go.RowKit

def cmpI (x y : Int) : Int := if x < y then -1 else if y < x then 1 else 0
def cmpT (s t : ByteArray) : Int := if Rg.tlt s t = true then -1 else if Rg.tlt t s = true then 1 else 0
def or3 (a b c : Int) : Int := if a ≠ 0 then a else if b ≠ 0 then b else c
end Go.Proofs.YtgcnohejmofhkaaDoor
