/- NetTurns as a law over what is handed in. -/
import Derived.Test.YtpojdgeginigjaaNi
set_option linter.unusedSimpArgs false
set_option linter.unusedVariables false
namespace Go.Proofs.Ytpojdgeginigjaa
open Go Go.Ar

theorem netTurns_law : Law Try.prog E 9 [24, 24] := by
  refine ⟨[.st [.k (.int .i64), .k (.int .i64), .k (.int .i64), .s [.int .i64, .int .i64, .int .i64]], .st [.k (.int .i64), .k (.int .i64), .k (.int .i64), .s [.int .i64, .int .i64, .int .i64]]], by kernel_rfl, fun H us h => ?_⟩
  obtain ⟨u0, us, rfl⟩ : ∃ a b, us = a :: b := by cases us with | nil => exact h.elim | cons a b => exact ⟨a, b, rfl⟩
  obtain ⟨h0, h⟩ := h
  obtain ⟨u1, us, rfl⟩ : ∃ a b, us = a :: b := by cases us with | nil => exact h.elim | cons a b => exact ⟨a, b, rfl⟩
  obtain ⟨h1, h⟩ := h
  obtain rfl : us = [] := by cases us with | nil => rfl | cons a b => exact h.elim
  obtain ⟨ws0, rfl, h0⟩ := h0
  obtain ⟨n0, a0, e0, i0⟩ := net_in h0
  rw [e0]
  obtain ⟨ws1, rfl, h1⟩ := h1
  obtain ⟨n1, a1, e1, i1⟩ := net_in h1
  rw [e1]
  exact turns_law i0.al i0.sl i1.al i1.sl
end Go.Proofs.Ytpojdgeginigjaa
