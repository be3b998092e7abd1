/- CsrPairs: the given law answers true, whatever is handed in; what was handed in reads as it did. -/
import Derived.Test.YtpojdgeginigjaaMRow0
import Derived.Test.YtpojdgeginigjaaMRow1
import Derived.Test.YtpojdgeginigjaaMLPairs
set_option linter.unusedVariables false
namespace Go.Proofs.Ytpojdgeginigjaa
open Go.ChangeShapes Go.WideShapes Go.ChangeAt Go.RowKit

set_option maxRecDepth 100000 in
theorem csrPairs_lifted (os : Os) (started : os.Started) (H : Type) (enc : TypeId × Value → H) :
    ReturnsInHanded {} Try.checked os 12 .any (Rows.csrPairsSpec.pre6 enc Try.prog Try.f12 Rows.csrPairsRow.domain false) (Rows.csrPairsSpec.post enc Try.prog Try.f12 false true false false) := by
  refine returnsInHanded_of_change (C := Try.checked) Try.own started (by kernel_rfl) Try.func12
    (ChangeSpec.witness6 (enc := enc) (C := Try.checked) false ⟨#[], #[.agg #[.int .i64 0, .int .i64 0, .int .i64 0, .slice none 0 0]], []⟩ 8 (by kernel_rfl) (by kernel_rfl) (by kernel_rfl) (by kernel_rfl)) ?_
  intro W base args ds gs before hval0 hW hcnd _
  have hval : ∀ (j : Nat) t v, Try.f12.params[j]? = some t → args[j]? = some v → Value.okWide Try.prog W .any base t v := hval0
  have hW' := hW
  obtain ⟨p, q, hA0, hV, rfl, hfz, hnd⟩ := hW
  have hA : DataW.TrodAll enc Try.prog W 0 (fun _ => true) true Try.f12.params.toList args.toList ds p := hA0
  rw [Try.params12] at hA hval
  have hA1 := hA
  have walk := Go.Ar.law_walk Try.mixed envOk csrPairs_law (fun i t v h1 h2 => hval i t v (by simpa using h1) h2) hA
  obtain ⟨v0, vs0, d0, ds0, p0, q0, hargs, rfl, rfl, h0, r0⟩ := trodAll_cons hA
  obtain ⟨rfl, rfl, rfl⟩ := trodAll_nil r0
  obtain ⟨rfl, rfl⟩ := trodVars_none hV
  refine walk.mono fun e W' ⟨he, bel⟩ => ?_
  subst he
  exact ⟨_, rfl, _, _, _, [], _, [], hW', trodAll_mk1 (shut_bool Try.underlying4 _), Go.Ar.trodAll_below Try.laidOut bel _ _ _ _ (fun t ht => by simp at ht; rcases ht with rfl <;> exact ⟨by kernel_rfl, of_decide_eq_true (by kernel_rfl)⟩) hA1, rfl, bel.frame _, fun h => by cases h⟩

theorem csrPairs_c0 : (Rows.csrPairsRow.wf (OpenSpec.ofChange Rows.csrPairsSpec)) = true := by kernel_rfl
theorem csrPairs_c1 : (laidOutB Try.checked.prog) = true := by kernel_rfl
theorem csrPairs_c2 : (mapsRowed Try.checked.prog) = true := by kernel_rfl
theorem csrPairs_c3 : (Try.f12.params.all (Try.checked.prog.readableRec ·)) = true := by kernel_rfl
theorem csrPairs_c4 : (namedTie Try.checked.prog Rows.csrPairsRow.named Rows.csrPairsSpec.vars) = true := by kernel_rfl
theorem csrPairs_c5 : ((Rows.csrPairsRow.stops == [])) = true := by kernel_rfl
theorem csrPairs_c6 : ((Try.checked.prog.stops == [])) = true := by kernel_rfl
theorem csrPairs_c7 : ((Rows.csrPairsRow.knobs == [])) = true := by kernel_rfl
theorem csrPairs_c8 : ((Try.checked.prog.stopKnobs == [])) = true := by kernel_rfl
theorem csrPairs_c9 : ((Rows.csrPairsRow.inPlace == Try.checked.prog.inPlace (12 : FuncId))) = true := by kernel_rfl
theorem csrPairs_c10 : ((Rows.csrPairsRow.unfollowed == Try.checked.prog.unfollowed (12 : FuncId))) = true := by kernel_rfl
theorem csrPairs_c11 : ((Rows.csrPairsRow.recurses == Try.checked.prog.recurses (12 : FuncId))) = true := by kernel_rfl
theorem csrPairs_c12 : ((Rows.csrPairsRow.named == Try.checked.prog.varsNamed (12 : FuncId))) = true := by kernel_rfl
theorem csrPairs_c13 : ((Rows.csrPairsRow.maps == (Try.f12.params.toList ++ Rows.csrPairsSpec.plain.varTypes Try.checked.prog).any (Try.checked.prog.mapsRec ·))) = true := by kernel_rfl
theorem csrPairs_c14 : ((Rows.csrPairsRow.ifaces == (Try.f12.params.toList ++ Rows.csrPairsSpec.plain.varTypes Try.checked.prog).any (Try.checked.prog.ifacesRec ·))) = true := by kernel_rfl
theorem csrPairs_c15 : ((Rows.csrPairsRow.mapsOut == Try.checked.prog.mapsAmong Try.f12.resultTypes.toList)) = true := by kernel_rfl
theorem csrPairs_c16 : ((Rows.csrPairsRow.loops == (Try.f12.params.toList ++ Rows.csrPairsSpec.plain.varTypes Try.checked.prog).any (Try.checked.prog.loopsFrom ·))) = true := by kernel_rfl
theorem csrPairs_c17 : ((Rows.csrPairsRow.wideKeys == (Try.f12.params.toList ++ Rows.csrPairsSpec.plain.varTypes Try.checked.prog ++ Try.f12.resultTypes.toList).any (Try.checked.prog.wideKeysFrom ·))) = true := by kernel_rfl
theorem csrPairs_c18 : (Rows.csrPairsSpec.vars.all (Try.checked.prog.varReadable ·)) = true := by kernel_rfl
theorem csrPairs_c19 : (Try.f12.resultTypes.all (fun t => Try.checked.prog.readableRec t && decide (t < Try.checked.prog.types.size))) = true := by kernel_rfl
theorem csrPairs_c20 : ((Rows.csrPairsRow.ifacesOut == Try.f12.resultTypes.toList.any (Try.checked.prog.ifacesRec ·))) = true := by kernel_rfl
theorem csrPairs_c21 : ((Rows.csrPairsRow.loopsOut == Try.f12.resultTypes.toList.any (Try.checked.prog.loopsFrom ·))) = true := by kernel_rfl
theorem csrPairs_c22 : ((Rows.csrPairsRow.plainKeys == Try.checked.prog.plainKeys)) = true := by kernel_rfl
theorem csrPairs_c23 : (Rows.csrPairsRow.shortTexts.isNone) = true := by kernel_rfl
theorem csrPairs_c24 : (Try.checked.prog.stopsHeard) = true := by kernel_rfl
theorem csrPairs_c28 : ((Rows.csrPairsRow.kinds == (if Rows.csrPairsRow.domain.isEmpty then [] else Try.f12.params.toList.map fun t => match Try.checked.prog.underlying t with | some (.int k) => some k | _ => none))) = true := by kernel_rfl
theorem csrPairs_c29 : ((Rows.csrPairsRow.pinned == Rows.csrPairsRow.pinnedBy)) = true := by kernel_rfl
theorem csrPairs_c30 : ((Rows.csrPairsRow.veiled == (Try.f12.params.toList ++ Rows.csrPairsSpec.plain.varTypes Try.checked.prog ++ Try.f12.resultTypes.toList).any (Try.checked.prog.veiledRec ·))) = true := by kernel_rfl
theorem csrPairs_c31 : (Rows.csrPairsRow.veiledFits Try.checked.prog Try.f12.params.toList (Try.f12.params.toList ++ Rows.csrPairsSpec.plain.varTypes Try.checked.prog ++ Try.f12.resultTypes.toList)) = true := by kernel_rfl
set_option maxRecDepth 100000 in
theorem csrPairs_closed : joinedFacts Try.checked.prog 12 Try.f12 Rows.csrPairsSpec Rows.csrPairsRow = true := by
  unfold joinedFacts
  exact and2 (and2 (and2 (and2 (and2 (and2 (and2 (and2 (and2 (and2 (and2 (and2 (and2 (and2 (and2 (and2 (and2 (and2 (and2 (and2 (and2 (and2 (and2 (and2 (and2 (and2 (and2 (and2 (and2 (and2 (and2 (csrPairs_c0) csrPairs_c1) csrPairs_c2) csrPairs_c3) csrPairs_c4) csrPairs_c5) csrPairs_c6) csrPairs_c7) csrPairs_c8) csrPairs_c9) csrPairs_c10) csrPairs_c11) csrPairs_c12) csrPairs_c13) csrPairs_c14) csrPairs_c15) csrPairs_c16) csrPairs_c17) csrPairs_c18) csrPairs_c19) csrPairs_c20) csrPairs_c21) csrPairs_c22) csrPairs_c23) csrPairs_c24) Try.enters) Try.lifts) Try.made) csrPairs_c28) csrPairs_c29) csrPairs_c30) csrPairs_c31
theorem csrPairs_holds : Rows.CsrPairsSaid :=
  OpenClaim.holds_of_wide 12 Try.f12 rfl rfl rfl rfl rfl rfl rfl ⟨rfl, rfl, rfl, rfl, rfl⟩ rfl rfl rfl rfl rfl (by kernel_rfl) Try.func12 csrPairs_closed
    (of_decide_eq_true (by kernel_rfl)) (by unfold Func.isWrapper; first | (rw [if_pos (by decide +kernel)]; kernel_rfl) | (rw [if_neg (by decide +kernel)]; exact ⟨rfl, rfl⟩))
    (fun os started H enc _ => csrPairs_lifted os started H enc)
end Go.Proofs.Ytpojdgeginigjaa
