/- SchedAgain as a law over what is handed in. -/
import Derived.Test.YteogambpkgkmhaaSj
import Derived.Test.YteogambpkgkmhaaLRounds
set_option linter.unusedSimpArgs false
set_option linter.unusedVariables false
namespace Go.Proofs.Yteogambpkgkmhaa
open Go Go.Ar

theorem schedAgain_law : Law Try.prog E 4 [5, 22, 34, 5] := by
  refine ⟨[.c (.k (.int .u8)), .c (.s [.int .i64]), .c (.s [.int .i8]), .c (.k (.int .u8))], by kernel_rfl, fun H us h => ?_⟩
  obtain ⟨u0, us, rfl⟩ : ∃ a b, us = a :: b := by cases us with | nil => exact h.elim | cons a b => exact ⟨a, b, rfl⟩
  obtain ⟨h0, h⟩ := h
  obtain ⟨u1, us, rfl⟩ : ∃ a b, us = a :: b := by cases us with | nil => exact h.elim | cons a b => exact ⟨a, b, rfl⟩
  obtain ⟨h1, h⟩ := h
  obtain ⟨u2, us, rfl⟩ : ∃ a b, us = a :: b := by cases us with | nil => exact h.elim | cons a b => exact ⟨a, b, rfl⟩
  obtain ⟨h2, h⟩ := h
  obtain ⟨u3, us, rfl⟩ : ∃ a b, us = a :: b := by cases us with | nil => exact h.elim | cons a b => exact ⟨a, b, rfl⟩
  obtain ⟨h3, h⟩ := h
  obtain rfl : us = [] := by cases us with | nil => rfl | cons a b => exact h.elim
  obtain ⟨w, rfl, hw⟩ : ∃ n, u0 = .int .u8 n ∧ IntKind.u8.min ≤ n ∧ n ≤ IntKind.u8.max := h0
  obtain ⟨st, rfl, hst⟩ : ∃ n, u3 = .int .u8 n ∧ IntKind.u8.min ≤ n ∧ n ≤ IntKind.u8.max := h3
  have h1' : SlOk [.int .i64] H u1 := h1
  have h2' : SlOk [.int .i8] H u2 := h2
  obtain ⟨zs, hi, hg, _, _⟩ := h1'.IL
  obtain ⟨bs, hj, _, _, hb⟩ := h2'.IL
  exact again_law (SlOk_Sl h1') hi hg hj hb hw hst
end Go.Proofs.Yteogambpkgkmhaa
