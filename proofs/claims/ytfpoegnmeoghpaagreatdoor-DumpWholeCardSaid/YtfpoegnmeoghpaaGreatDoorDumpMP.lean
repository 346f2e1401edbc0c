/- What the functions on integers compute, part MP. -/
import Derived.Test.YtfpoegnmeoghpaaGreatDoorDumpMW
set_option linter.unusedVariables false
set_option linter.unusedSimpArgs false
namespace Go.VI.Dump
open Go.VI.Num
/- BIGSTEPS -/
end Go.VI.Dump
