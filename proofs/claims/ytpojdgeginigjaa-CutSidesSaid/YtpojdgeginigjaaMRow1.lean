/- Facts of the whole program that every row of this seat asks: the three great ones. -/
import Derived.Test.YtpojdgeginigjaaRows
import Derived.JoinedOf
namespace Go.Proofs.Ytpojdgeginigjaa
theorem Try.enters : (Try.checked.prog.mayEnter) = true := by kernel_rfl
theorem Try.lifts : (Rows.netFirstRow.lifted == Try.checked.prog.liftsFinal) = true := by kernel_rfl
theorem Try.made : (Try.checked.prog.make == some Rows.netFirstRow.make) = true := by kernel_rfl
theorem and2 {a b : Bool} (h1 : a = true) (h2 : b = true) : (a && b) = true := by rw [h1, h2]; rfl
end Go.Proofs.Ytpojdgeginigjaa
