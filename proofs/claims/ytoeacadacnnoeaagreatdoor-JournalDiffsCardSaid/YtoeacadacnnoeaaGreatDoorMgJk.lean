/-
  Contracts of the journal's examples. Definitions alone. Conditions: none.
-/
import Derived.Test.YtoeacadacnnoeaaGreatDoorMgSu
import Derived.Test.YtoeacadacnnoeaaGreatDoorMgSt
import Derived.Test.YtoeacadacnnoeaaGreatDoorMgSv
namespace Go.Mg
open Go Go.Sx
def cShown27 : Contract := { c0 with fn := 15, res := .bool (.lit 1) }
def xSave (P : Program) : Cx := xPlus P [cV43, cB44]
def xShown27 (P : Program) : Cx := xPlus P [cNew, cDo1, cDo2, cSave]
def cKnown : Contract := { c0 with fn := 7, res := .bool (.lit 1) }
def xKnown (P : Program) : Cx := xPlus P [cShown27]
end Go.Mg
