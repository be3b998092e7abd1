/- CutSides as a law over what is handed in. -/
import Derived.Test.YtpojdgeginigjaaMGk
set_option linter.unusedSimpArgs false
set_option linter.unusedVariables false
namespace Go.Proofs.Ytpojdgeginigjaa
open Go Go.Ar

theorem cutSides_law : Law Try.prog E 20 [24, 38, 5] := by
  refine ⟨[.st [.k (.int .i64), .k (.int .i64), .k (.int .i64), .s [.int .i64, .int .i64, .int .i64]], .c (.s [.bool]), .c (.k (.int .u8))], by kernel_rfl, fun H us h => ?_⟩
  obtain ⟨u0, us, rfl⟩ : ∃ a b, us = a :: b := by cases us with | nil => exact h.elim | cons a b => exact ⟨a, b, rfl⟩
  obtain ⟨h0, h⟩ := h
  obtain ⟨u1, us, rfl⟩ : ∃ a b, us = a :: b := by cases us with | nil => exact h.elim | cons a b => exact ⟨a, b, rfl⟩
  obtain ⟨h1, h⟩ := h
  obtain ⟨u2, us, rfl⟩ : ∃ a b, us = a :: b := by cases us with | nil => exact h.elim | cons a b => exact ⟨a, b, rfl⟩
  obtain ⟨h2, h⟩ := h
  obtain rfl : us = [] := by cases us with | nil => rfl | cons a b => exact h.elim
  obtain ⟨ws0, rfl, h0⟩ := h0
  obtain ⟨n0, a0, e0, i0⟩ := net_in h0
  rw [e0]
  have k1 : SlOk [.bool] H u1 := h1
  obtain ⟨z1, i1, g1, m1⟩ := k1.BL
  obtain ⟨n2, rfl, b2⟩ : ∃ n, u2 = .int .u8 n ∧ IntKind.u8.min ≤ n ∧ n ≤ IntKind.u8.max := h2
  exact cutsides_law i0 i1 b2
end Go.Proofs.Ytpojdgeginigjaa
