/- What all rows of this seat share. -/
import Derived.Test.YteogambpkgkmhaaRows
import Derived.Test.YteogambpkgkmhaaAr27
import Derived.Test.YteogambpkgkmhaaSa
set_option linter.unusedVariables false
namespace Go.Proofs.Yteogambpkgkmhaa
open Go.ChangeShapes Go.WideShapes Go.ChangeAt Go.RowKit
open Go.Ar (yesb callN callL env0 envY V Heap Blk yesb_of)

theorem Try.own : ownKnob Try.prog.godebug = none := by kernel_rfl
theorem Try.laidOut : laidOutB Try.prog = true := by kernel_rfl
theorem Try.mixed : Try.prog.follows .mixedOrders = true := by kernel_rfl
theorem awake_yes : yesb (callN (env0 Try.prog) 40 (.f 11) [] []) = true := by kernel_rfl
theorem envOk : Go.Ar.EnvOk Try.prog E := by
  obtain ⟨H', h⟩ := yesb_of awake_yes
  exact Go.Ar.envY_ok Try.mixed h
end Go.Proofs.Yteogambpkgkmhaa
