/- The examples' rows hold: known answers true. -/
import Derived.Test.YthcdhdgpokikfaaAcBase
open Go.Proofs
namespace Go.AM.Car
set_option maxRecDepth 10000
theorem known_run : acall Try.prog 3000 16 [] HZ = some (.one (.sc (.bool true)), .clean) := by kernel_rfl
theorem known_cv (H : AH) : Cv Try.prog 16 [] H (Cl (· = vbool true)) := Cv.shut Try.func16 rfl (by kernel_rfl) known_run H
theorem prog_ok : progOk Try.prog = true := by kernel_rfl
theorem prog_mixed : Try.prog.follows .mixedOrders = true := by kernel_rfl
end Go.AM.Car
