/- SchedNone: a script that is none tells nobody. -/
import Derived.Test.YteogambpkgkmhaaRows
import Derived.Test.YteogambpkgkmhaaAr22
set_option linter.unusedVariables false
namespace Go.Proofs.Yteogambpkgkmhaa
open Go.ChangeShapes Go.WideShapes Go.ChangeAt Go.RowKit
open Go.Ar (yesb callN callL env0 envY V Heap Blk yesb_of)

theorem Try.own : ownKnob Try.prog.godebug = none := by kernel_rfl
theorem Try.laidOut : laidOutB Try.prog = true := by kernel_rfl
theorem Try.mixed : Try.prog.follows .mixedOrders = true := by kernel_rfl

theorem awake_yes : yesb (callN (env0 Try.prog) 40 (.f 11) [] []) = true := by kernel_rfl
theorem envOk : Go.Ar.EnvOk Try.prog (envY Try.prog 11) := by
  obtain ⟨H', h⟩ := yesb_of awake_yes
  exact Go.Ar.envY_ok Try.mixed h

theorem none_nil : yesb (callN (envY Try.prog 11) 40 (.f 7) [.nils] []) = true := by kernel_rfl
theorem none_sl (len : Nat) (cs : List V) : yesb (callN (envY Try.prog 11) 40 (.f 7) [.sl 0 0 len len] [.cells cs .ro]) = true := by kernel_rfl

set_option maxRecDepth 100000 in
theorem none_lifted (os : Os) (started : os.Started) (H : Type) (enc : TypeId × Value → H) :
    ReturnsInHanded {} Try.checked os 7 .any (Rows.schedNoneSpec.pre6 enc Try.prog Try.f7 Rows.schedNoneRow.domain false) (Rows.schedNoneSpec.post enc Try.prog Try.f7 false true false false) := by
  refine returnsInHanded_of_change (C := Try.checked) Try.own started (by kernel_rfl) Try.func7
    (ChangeSpec.witness6 (enc := enc) (C := Try.checked) false ⟨#[], #[.slice none 0 0], []⟩ 8 (by kernel_rfl) (by kernel_rfl) (by kernel_rfl) (by kernel_rfl)) ?_
  intro W base args ds gs before hval0 hW hcnd _
  have hval : ∀ (j : Nat) t v, Try.f7.params[j]? = some t → args[j]? = some v → Value.okWide Try.prog W .any base t v := hval0
  have hW' := hW
  obtain ⟨p, q, hA0, hV, rfl, hfz, hnd⟩ := hW
  have hA : DataW.TrodAll enc Try.prog W 0 (fun _ => true) true Try.f7.params.toList args.toList ds p := hA0
  rw [Try.params7] at hA hval
  have hA1 := hA
  obtain ⟨v0, vs0, d0, ds0, p0, q0, hargs, rfl, rfl, h0, r0⟩ := trodAll_cons hA
  obtain ⟨rfl, rfl, rfl⟩ := trodAll_nil r0
  obtain rfl : args = #[v0] := by cases args; simp_all
  obtain ⟨rfl, rfl⟩ := trodVars_none hV
  have ok0 := Go.Ar.okWide_cell (hval 0 28 v0 rfl rfl) (by kernel_rfl)
  obtain ⟨a0, len0, cap0, rfl⟩ := okWide_slice Try.underlying28 (hval 0 28 v0 rfl rfl)
  obtain ⟨f0, hf0⟩ := h0
  obtain ⟨ρ, H1, u, hS, _, hR, _, hu⟩ := Go.Ar.open_slice (Go.Ar.Sim.empty W) Try.underlying28 (ks := [.bool]) (by kernel_rfl) (by kernel_rfl) ok0 hf0
  have walk : Calls Try.prog 7 #[.slice a0 len0 cap0] W fun e W' => e = .returned (.bool true) ∧ Below W.heap.size W W' := by
    rcases hu with ⟨rfl, rfl⟩ | ⟨len, cs, rfl, rfl⟩
    · obtain ⟨H', h⟩ := yesb_of none_nil
      exact Go.Ar.walk_of Try.mixed envOk (Go.Ar.callL_iff.2 ⟨40, h⟩) hS (Go.Ar.RL.cons hR (Go.Ar.RL.nil _))
    · obtain ⟨H', h⟩ := yesb_of (none_sl len cs)
      exact Go.Ar.walk_of Try.mixed envOk (Go.Ar.callL_iff.2 ⟨40, h⟩) hS (Go.Ar.RL.cons hR (Go.Ar.RL.nil _))
  refine walk.mono fun e W' ⟨he, bel⟩ => ?_
  subst he
  exact ⟨_, rfl, _, _, _, [], _, [], hW', trodAll_mk1 (shut_bool Try.underlying4 _), Go.Ar.trodAll_below Try.laidOut bel _ _ _ _ (fun t ht => by simp at ht; subst ht; exact ⟨by kernel_rfl, of_decide_eq_true (by kernel_rfl)⟩) hA1, rfl, bel.frame _, fun h => by cases h⟩

theorem schedNone_holds : Rows.SchedNoneSaid :=
  OpenClaim.holds_of_wide 7 Try.f7 rfl rfl rfl rfl rfl rfl rfl ⟨rfl, rfl, rfl, rfl, rfl⟩ rfl rfl rfl rfl rfl (by kernel_rfl) Try.func7 (by kernel_rfl)
    (of_decide_eq_true (by kernel_rfl)) (by unfold Func.isWrapper; first | (rw [if_pos (by decide +kernel)]; kernel_rfl) | (rw [if_neg (by decide +kernel)]; exact ⟨rfl, rfl⟩))
    (fun os started H enc _ => none_lifted os started H enc)
end Go.Proofs.Yteogambpkgkmhaa
