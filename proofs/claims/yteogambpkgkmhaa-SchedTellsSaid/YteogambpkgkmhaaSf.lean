/- Where to look from on: its bounds. -/
import Derived.Test.YteogambpkgkmhaaSe
set_option linter.unusedSimpArgs false
set_option linter.unusedVariables false
namespace Go.Proofs.Yteogambpkgkmhaa
open Go Go.Ar

theorem begin_cons {x : Int} {xs : List Int} {last : Int} {n : Nat} (hn : 0 < n) (h64 : n ≤ 64) : beginOf (x :: xs) last n = (x.tmod n + n).tmod n := by
  unfold beginOf
  have h1 := Int.tmod_lt_of_pos x (by omega : (0 : Int) < n)
  have h2 : -(n : Int) < x.tmod n := Int.lt_tmod_of_pos x (by omega)
  have : IntKind.i64.wrap (x.tmod n + n) = x.tmod n + n := by
    simp only [IntKind.wrap, IntKind.bits, IntKind.signed]
    generalize x.tmod n = r at h1 h2 ⊢
    simp
    omega
  simp only [this]
theorem begin_bounds {picks : List Int} {last : Int} {n : Nat} (hn : 0 < n) (h64 : n ≤ 64) (h0 : 0 ≤ last) : 0 ≤ beginOf picks last n ∧ beginOf picks last n < n := by
  cases picks with
  | nil => exact ⟨Int.tmod_nonneg _ (by omega), Int.tmod_lt_of_pos _ (by omega)⟩
  | cons x xs =>
    rw [begin_cons hn h64]
    have h2 : -(n : Int) < x.tmod n := Int.lt_tmod_of_pos x (by omega)
    exact ⟨Int.tmod_nonneg _ (by omega), Int.tmod_lt_of_pos _ (by omega)⟩
end Go.Proofs.Yteogambpkgkmhaa
