import Derived.Test.YtmickenajhppoaaGreatDoorSortPlain
import Derived.Test.YtmickenajhppoaaGreatDoorZ09
import Derived.Test.YtmickenajhppoaaGreatDoorHChange
/- Plain: lists of changes: what is ok, all paths. -/
namespace Go.Proofs.YtmickenajhppoaaGreatDoor
open Go.RowKit

/-- A change that is ok. -/
def changeOk (c : PChange) : Bool := pathOk c.path && (
  if c.kind = 1 ∨ c.kind = 2 then textOk c.text && (decide (c.dest = []) && decide (c.patch.length = 0))
  else if c.kind = 3 then decide (c.text.length = 0) && (decide (c.dest = []) && (decide (0 < c.patch.length) && patchOk c.patch))
  else if c.kind = 4 then decide (c.text.length = 0) && (decide (c.patch.length = 0) && (pathOk c.dest && !(c.dest == c.path)))
  else false)
/-- The paths that a change names. -/
def pathsC (c : PChange) : List Str := if c.kind = 4 then [c.path, c.dest] else [c.path]
def pathsL (l : List PChange) : List Str := l.flatMap pathsC
def changesOk (l : List PChange) : Bool := decide (l.length ≤ 16) && (l.all changeOk && decide (pathsL l).Nodup)
def changesPaths (l : List PChange) : List Str := if changesOk l then sortS (pathsL l) else []
end Go.Proofs.YtmickenajhppoaaGreatDoor
