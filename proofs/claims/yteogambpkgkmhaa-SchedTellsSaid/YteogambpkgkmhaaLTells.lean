/- SchedTells as a law over what is handed in. -/
import Derived.Test.YteogambpkgkmhaaSo
import Derived.Test.YteogambpkgkmhaaLRounds
set_option linter.unusedSimpArgs false
set_option linter.unusedVariables false
namespace Go.Proofs.Yteogambpkgkmhaa
open Go Go.Ar

theorem schedTells_law : Law Try.prog E 5 [3, 22, 37] := by
  refine ⟨[.c (.k (.int .i64)), .c (.s [.int .i64]), .c (.s [.int .u64])], by kernel_rfl, fun H us h => ?_⟩
  obtain ⟨u0, us, rfl⟩ : ∃ a b, us = a :: b := by cases us with | nil => exact h.elim | cons a b => exact ⟨a, b, rfl⟩
  obtain ⟨h0, h⟩ := h
  obtain ⟨u1, us, rfl⟩ : ∃ a b, us = a :: b := by cases us with | nil => exact h.elim | cons a b => exact ⟨a, b, rfl⟩
  obtain ⟨h1, h⟩ := h
  obtain ⟨u2, us, rfl⟩ : ∃ a b, us = a :: b := by cases us with | nil => exact h.elim | cons a b => exact ⟨a, b, rfl⟩
  obtain ⟨h2, h⟩ := h
  obtain rfl : us = [] := by cases us with | nil => rfl | cons a b => exact h.elim
  obtain ⟨n0, rfl, b0⟩ : ∃ n, u0 = .int .i64 n ∧ IntKind.i64.min ≤ n ∧ n ≤ IntKind.i64.max := h0
  have k1 : SlOk [.int .i64] H u1 := h1
  obtain ⟨z1, i1, g1, m1, b1⟩ := k1.IL
  have k2 : SlOk [.int .u64] H u2 := h2
  obtain ⟨z2, i2, g2, m2, b2⟩ := k2.IL
  exact tells_law (SlOk_Sl k1) i1 g1 i2 g2 (fun z hz => by have := b2 z hz; simp [IntKind.min, IntKind.max, IntKind.bits, IntKind.signed] at this; omega)
end Go.Proofs.Yteogambpkgkmhaa
