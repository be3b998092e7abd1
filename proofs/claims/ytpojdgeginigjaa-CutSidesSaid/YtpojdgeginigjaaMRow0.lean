/- What all rows of this seat share. -/
import Derived.Test.YtpojdgeginigjaaMD
import Derived.Test.YtpojdgeginigjaaRows
set_option linter.unusedVariables false
namespace Go.Proofs.Ytpojdgeginigjaa
open Go.ChangeShapes Go.WideShapes Go.ChangeAt Go.RowKit
open Go.Ar (yesb callN callL env0 V Heap Blk yesb_of)

theorem Try.own : ownKnob Try.prog.godebug = none := by kernel_rfl
theorem Try.laidOut : laidOutB Try.prog = true := by kernel_rfl
theorem Try.mixed : Try.prog.follows .mixedOrders = true := by kernel_rfl
theorem awake26 : yesb (callN (env0 Try.prog) 60 (.f 26) [] []) = true := by kernel_rfl
theorem awake50 : yesb (callN (env0 Try.prog) 60 (.f 50) [] []) = true := by kernel_rfl
theorem awake39 : yesb (callN (env0 Try.prog) 60 (.f 39) [] []) = true := by kernel_rfl
theorem envOk : Go.Ar.EnvOk Try.prog E := by
  refine Go.Ar.envL_ok Try.mixed fun k hk => ?_
  simp only [awk, List.mem_cons, List.not_mem_nil, or_false] at hk
  rcases hk with rfl | rfl | rfl
  · obtain ⟨H', h⟩ := yesb_of awake26; exact ⟨60, H', h⟩
  · obtain ⟨H', h⟩ := yesb_of awake50; exact ⟨60, H', h⟩
  · obtain ⟨H', h⟩ := yesb_of awake39; exact ⟨60, H', h⟩
end Go.Proofs.Ytpojdgeginigjaa
