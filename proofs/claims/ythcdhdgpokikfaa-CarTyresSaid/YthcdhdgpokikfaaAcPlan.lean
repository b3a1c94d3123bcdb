/- Plans as the machine sees them. -/
import Derived.Test.YthcdhdgpokikfaaAcBase
namespace Go.AM.Car
structure Plan where
  sets : List Int
  comps : List Int
  loss : Int
def planC (p : Plan) : List Cell := [.lst 1 (p.sets.map intC), .lst 1 (p.comps.map intC), cint p.loss]
end Go.AM.Car
