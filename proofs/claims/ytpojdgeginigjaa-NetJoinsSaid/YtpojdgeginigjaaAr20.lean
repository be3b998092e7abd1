/- The functions of a loaded program, as the abstract run has them; a function of no arguments that answers true, as a summary. -/
import Derived.Test.YtpojdgeginigjaaAr19
set_option linter.unusedSimpArgs false
set_option linter.unusedVariables false
namespace Go.Ar
open Go.RowKit

def codeOf (P : Program) (g : Nat) : Option FC :=
  match P.funcs[g]? with
  | some fn => if fn.name == "runtime.NumGoroutine" then none else compF P fn
  | none => none
def env0 (P : Program) : Env := ⟨codeOf P, fun _ => none⟩
/-- Function k answers true, and does nothing that is seen. -/
def yes (k : Nat) : Nat → Option (List V → Heap → Option (V × Heap)) := fun g => if g = k then some fun args H => (match args with | [] => some (.bool true, H) | _ => none) else none
def envY (P : Program) (k : Nat) : Env := ⟨codeOf P, yes k⟩

theorem codeOf_ok {P : Program} (g : Nat) (fc : FC) (h : codeOf P g = some fc) : ∃ fn, P.funcs[g]? = some fn ∧ compF P fn = some fc ∧ (fn.name == "runtime.NumGoroutine") = false := by
  unfold codeOf at h
  split at h
  · rename_i fn hf
    split at h
    · cases h
    · rename_i hn; exact ⟨fn, hf, h, by simpa using hn⟩
  · cases h
theorem env0_ok (P : Program) : EnvOk P (env0 P) := ⟨codeOf_ok, fun g h args H v H' hs => by cases hs⟩

variable {P : Program} {B0 : Nat} {w0 : World} {ρ : Rho} {H : Heap} {D : List Nat} {w : World}

theorem Sim.empty (w : World) : Sim P w.heap.size w (fun _ => none) [] [] w :=
  ⟨fun _ _ => rfl, Nat.le_refl _, Below.refl _ _, fun k b h => by simp at h, fun k k' b b' L L' _ h => by simp at h, fun r h => by cases h⟩

theorem Sim.below (hS : Sim P B0 w0 ρ H D w) {w' : World} (hb : Below w.heap.size w w') : Sim P B0 w0 ρ H D w' := by
  refine ⟨hS.out, hS.base, hS.low.trans (hb.mono hS.sizeLe), fun k b hk hl => ?_, hS.sep, fun r hr => ?_⟩
  · obtain ⟨L, h1, h2⟩ := hS.blk k b hk hl
    exact ⟨L, h1, h2.heap (hb.block _ (h2.lt hl))⟩
  · obtain ⟨h1, h2⟩ := hS.dfr r hr
    exact ⟨h1, (hb.block r (Array.getElem?_eq_some_iff.1 h2).1).trans h2⟩

theorem envY_ok (hm : P.follows .mixedOrders = true) {k n : Nat} {H1 : Heap} (h : callN (env0 P) n (.f k) [] [] = some (.bool true, H1)) : EnvOk P (envY P k) := by
  refine ⟨codeOf_ok, fun g f args H v H' hs hf => ?_⟩
  unfold envY yes at hs
  simp only at hs
  split at hs
  case isFalse => cases hs
  rename_i hg
  subst hg
  cases hs
  dsimp only at hf
  split at hf
  case h_2 => cases hf
  cases hf
  obtain ⟨h1, h2⟩ := (callN_ok hm (env0_ok P) n).f h
  refine ⟨h1, Grow.refl _, fun {B0 w0 ρ D w args'} hD hS hR ro j => ?_⟩
  have ha : args'.toList = [] := List.eq_nil_of_length_eq_zero (by rw [← hR.1]; rfl)
  refine (h2 List.nodup_nil (Sim.empty w) (by rw [ha]; exact RL.nil _) ro j).mono fun e w' hp => ?_
  obtain ⟨v', rfl, ρ', hv, _, hS'⟩ := hp
  rw [hv.bool_inv]
  exact ⟨_, rfl, ρ, R.bool _, Agree.refl _ _, hS.below hS'.low⟩
end Go.Ar
