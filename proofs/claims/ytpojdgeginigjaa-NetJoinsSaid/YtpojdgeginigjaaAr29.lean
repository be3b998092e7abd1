/- Several functions of no arguments that answer true, as summaries. -/
import Derived.Test.YtpojdgeginigjaaAr28
set_option linter.unusedSimpArgs false
set_option linter.unusedVariables false
namespace Go.Ar
variable {P : Program}

def yesL (ks : List Nat) : Nat → Option (List V → Heap → Option (V × Heap)) := fun g => if ks.contains g then yes g g else none
def envL (P : Program) (ks : List Nat) : Env := ⟨codeOf P, yesL ks⟩
theorem envL_ok (hm : P.follows .mixedOrders = true) {ks : List Nat} (h : ∀ k, k ∈ ks → ∃ n H1, callN (env0 P) n (.f k) [] [] = some (.bool true, H1)) : EnvOk P (envL P ks) := by
  refine ⟨codeOf_ok, fun g f args H v H' hs hf => ?_⟩
  have hs' : yesL ks g = some f := hs
  unfold yesL at hs'
  split at hs'
  case isFalse => cases hs'
  rename_i hg
  obtain ⟨n, H1, hn⟩ := h g (by simpa using hg)
  exact (envY_ok hm (k := g) hn).2 g f args H v H' hs' hf
theorem call_L {ks : List Nat} {g : Nat} {fc : FC} {gc : MC} (hg : ks.contains g = false) (hC : codeOf P g = some fc) (hn : fc.body.norm = gc) {args : List V} (hl : args.length = fc.nargs) {H : Heap} {Q : V → Heap → Prop}
    (h : WP (envL P ks) gc ⟨args0 args, H⟩ fun e s' => (∀ i, e ≠ .exit i) ∧ ∃ vs, resL s'.τ s'.H fc.res = some vs ∧ Q (pack vs) s'.H) : ∃ v H', callL (envL P ks) (.f g) args H = some (v, H') ∧ Q v H' := by
  rw [callL_f (E := envL P ks) (by have : yesL ks g = none := by unfold yesL; rw [if_neg (by rw [hg]; simp)]
                                   exact this) hC hl]
  exact wa_finish (wa_norm hn h)
/-- A function's flat code, with what it takes and answers. -/
def nc (P : Program) (g : Nat) : Option (Nat × List RV × MC) := (codeOf P g).map fun fc => (fc.nargs, fc.res, fc.body.norm)
theorem call_N {ks : List Nat} {g n : Nat} {rs : List RV} {gc : MC} (hg : ks.contains g = false) (hC : nc P g = some (n, rs, gc)) {args : List V} (hl : args.length = n) {H : Heap} {Q : V → Heap → Prop}
    (h : WP (envL P ks) gc ⟨args0 args, H⟩ fun e s' => (∀ i, e ≠ .exit i) ∧ ∃ vs, resL s'.τ s'.H rs = some vs ∧ Q (pack vs) s'.H) : ∃ v H', callL (envL P ks) (.f g) args H = some (v, H') ∧ Q v H' := by
  unfold nc at hC
  cases hc : codeOf P g with
  | none => rw [hc] at hC; cases hC
  | some fc =>
    rw [hc] at hC
    simp only [Option.map_some, Option.some.injEq, Prod.mk.injEq] at hC
    obtain ⟨h1, rfl, h3⟩ := hC
    exact call_L hg hc h3 (by rw [hl, h1]) h
theorem call_yesL {ks : List Nat} {k : Nat} (hk : ks.contains k = true) {H : Heap} : callL (envL P ks) (.f k) [] H = some (.bool true, H) := by
  have h : (envL P ks).S k = yesL ks k := rfl
  unfold yesL at h
  unfold yes at h
  rw [if_pos hk, if_pos rfl] at h
  rw [callL_S h]
end Go.Ar
