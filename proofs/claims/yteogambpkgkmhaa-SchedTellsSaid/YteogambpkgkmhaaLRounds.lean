/- SchedRounds as a law over what is handed in. -/
import Derived.Test.YteogambpkgkmhaaSi
import Derived.Test.YteogambpkgkmhaaAr27
set_option linter.unusedSimpArgs false
set_option linter.unusedVariables false
namespace Go.Proofs.Yteogambpkgkmhaa
open Go Go.Ar

theorem SlOk_Sl {ks : List KE} {H : Heap} {u : V} (h : SlOk ks H u) : Sl u := by
  rcases h with rfl | ⟨k, len, cs, rfl, _⟩
  · exact .inl rfl
  · exact .inr ⟨_, _, _, _, rfl⟩
theorem schedRounds_law : Law Try.prog E 6 [5, 22, 45] := by
  refine ⟨[.c (.k (.int .u8)), .c (.s [.int .i64]), .c (.k (.int .u16))], by kernel_rfl, fun H us h => ?_⟩
  obtain ⟨u0, us, rfl⟩ : ∃ a b, us = a :: b := by cases us with | nil => exact h.elim | cons a b => exact ⟨a, b, rfl⟩
  obtain ⟨h0, h⟩ := h
  obtain ⟨u1, us, rfl⟩ : ∃ a b, us = a :: b := by cases us with | nil => exact h.elim | cons a b => exact ⟨a, b, rfl⟩
  obtain ⟨h1, h⟩ := h
  obtain ⟨u2, us, rfl⟩ : ∃ a b, us = a :: b := by cases us with | nil => exact h.elim | cons a b => exact ⟨a, b, rfl⟩
  obtain ⟨h2, h⟩ := h
  obtain rfl : us = [] := by cases us with | nil => rfl | cons a b => exact h.elim
  obtain ⟨w, rfl, hw⟩ : ∃ n, u0 = .int .u8 n ∧ IntKind.u8.min ≤ n ∧ n ≤ IntKind.u8.max := h0
  obtain ⟨st, rfl, hst⟩ : ∃ n, u2 = .int .u16 n ∧ IntKind.u16.min ≤ n ∧ n ≤ IntKind.u16.max := h2
  have h1' : SlOk [.int .i64] H u1 := h1
  obtain ⟨zs, hi, hg, _, _⟩ := h1'.IL
  exact rounds_law (SlOk_Sl h1') hi hg hw hst
end Go.Proofs.Yteogambpkgkmhaa
