/- CutPairs: the given law answers true, whatever is handed in; what was handed in reads as it did. -/
import Derived.Test.YtpojdgeginigjaaMRow0
import Derived.Test.YtpojdgeginigjaaMRow1
import Derived.Test.YtpojdgeginigjaaMLCutPairs
set_option linter.unusedVariables false
namespace Go.Proofs.Ytpojdgeginigjaa
open Go.ChangeShapes Go.WideShapes Go.ChangeAt Go.RowKit

set_option maxRecDepth 100000 in
theorem cutPairs_lifted (os : Os) (started : os.Started) (H : Type) (enc : TypeId × Value → H) :
    ReturnsInHanded {} Try.checked os 21 .any (Rows.cutPairsSpec.pre6 enc Try.prog Try.f21 Rows.cutPairsRow.domain false) (Rows.cutPairsSpec.post enc Try.prog Try.f21 false true false false) := by
  refine returnsInHanded_of_change (C := Try.checked) Try.own started (by kernel_rfl) Try.func21
    (ChangeSpec.witness6 (enc := enc) (C := Try.checked) false ⟨#[], #[.agg #[.int .i64 0, .int .i64 0, .int .i64 0, .slice none 0 0], .slice none 0 0, .slice none 0 0], []⟩ 8 (by kernel_rfl) (by kernel_rfl) (by kernel_rfl) (by kernel_rfl)) ?_
  intro W base args ds gs before hval0 hW hcnd _
  have hval : ∀ (j : Nat) t v, Try.f21.params[j]? = some t → args[j]? = some v → Value.okWide Try.prog W .any base t v := hval0
  have hW' := hW
  obtain ⟨p, q, hA0, hV, rfl, hfz, hnd⟩ := hW
  have hA : DataW.TrodAll enc Try.prog W 0 (fun _ => true) true Try.f21.params.toList args.toList ds p := hA0
  rw [Try.params21] at hA hval
  have hA1 := hA
  have walk := Go.Ar.law_walk Try.mixed envOk cutPairs_law (fun i t v h1 h2 => hval i t v (by simpa using h1) h2) hA
  obtain ⟨v0, vs0, d0, ds0, p0, q0, hargs, rfl, rfl, h0, r0⟩ := trodAll_cons hA
  obtain ⟨v1, vs1, d1, ds1, p1, q1, rfl, rfl, rfl, h1, r1⟩ := trodAll_cons r0
  obtain ⟨v2, vs2, d2, ds2, p2, q2, rfl, rfl, rfl, h2, r2⟩ := trodAll_cons r1
  obtain ⟨rfl, rfl, rfl⟩ := trodAll_nil r2
  obtain ⟨rfl, rfl⟩ := trodVars_none hV
  refine walk.mono fun e W' ⟨he, bel⟩ => ?_
  subst he
  exact ⟨_, rfl, _, _, _, [], _, [], hW', trodAll_mk1 (shut_bool Try.underlying4 _), Go.Ar.trodAll_below Try.laidOut bel _ _ _ _ (fun t ht => by simp at ht; rcases ht with rfl | rfl | rfl <;> exact ⟨by kernel_rfl, of_decide_eq_true (by kernel_rfl)⟩) hA1, rfl, bel.frame _, fun h => by cases h⟩

theorem cutPairs_c0 : (Rows.cutPairsRow.wf (OpenSpec.ofChange Rows.cutPairsSpec)) = true := by kernel_rfl
theorem cutPairs_c1 : (laidOutB Try.checked.prog) = true := by kernel_rfl
theorem cutPairs_c2 : (mapsRowed Try.checked.prog) = true := by kernel_rfl
theorem cutPairs_c3 : (Try.f21.params.all (Try.checked.prog.readableRec ·)) = true := by kernel_rfl
theorem cutPairs_c4 : (namedTie Try.checked.prog Rows.cutPairsRow.named Rows.cutPairsSpec.vars) = true := by kernel_rfl
theorem cutPairs_c5 : ((Rows.cutPairsRow.stops == [])) = true := by kernel_rfl
theorem cutPairs_c6 : ((Try.checked.prog.stops == [])) = true := by kernel_rfl
theorem cutPairs_c7 : ((Rows.cutPairsRow.knobs == [])) = true := by kernel_rfl
theorem cutPairs_c8 : ((Try.checked.prog.stopKnobs == [])) = true := by kernel_rfl
theorem cutPairs_c9 : ((Rows.cutPairsRow.inPlace == Try.checked.prog.inPlace (21 : FuncId))) = true := by kernel_rfl
theorem cutPairs_c10 : ((Rows.cutPairsRow.unfollowed == Try.checked.prog.unfollowed (21 : FuncId))) = true := by kernel_rfl
theorem cutPairs_c11 : ((Rows.cutPairsRow.recurses == Try.checked.prog.recurses (21 : FuncId))) = true := by kernel_rfl
theorem cutPairs_c12 : ((Rows.cutPairsRow.named == Try.checked.prog.varsNamed (21 : FuncId))) = true := by kernel_rfl
theorem cutPairs_c13 : ((Rows.cutPairsRow.maps == (Try.f21.params.toList ++ Rows.cutPairsSpec.plain.varTypes Try.checked.prog).any (Try.checked.prog.mapsRec ·))) = true := by kernel_rfl
theorem cutPairs_c14 : ((Rows.cutPairsRow.ifaces == (Try.f21.params.toList ++ Rows.cutPairsSpec.plain.varTypes Try.checked.prog).any (Try.checked.prog.ifacesRec ·))) = true := by kernel_rfl
theorem cutPairs_c15 : ((Rows.cutPairsRow.mapsOut == Try.checked.prog.mapsAmong Try.f21.resultTypes.toList)) = true := by kernel_rfl
theorem cutPairs_c16 : ((Rows.cutPairsRow.loops == (Try.f21.params.toList ++ Rows.cutPairsSpec.plain.varTypes Try.checked.prog).any (Try.checked.prog.loopsFrom ·))) = true := by kernel_rfl
theorem cutPairs_c17 : ((Rows.cutPairsRow.wideKeys == (Try.f21.params.toList ++ Rows.cutPairsSpec.plain.varTypes Try.checked.prog ++ Try.f21.resultTypes.toList).any (Try.checked.prog.wideKeysFrom ·))) = true := by kernel_rfl
theorem cutPairs_c18 : (Rows.cutPairsSpec.vars.all (Try.checked.prog.varReadable ·)) = true := by kernel_rfl
theorem cutPairs_c19 : (Try.f21.resultTypes.all (fun t => Try.checked.prog.readableRec t && decide (t < Try.checked.prog.types.size))) = true := by kernel_rfl
theorem cutPairs_c20 : ((Rows.cutPairsRow.ifacesOut == Try.f21.resultTypes.toList.any (Try.checked.prog.ifacesRec ·))) = true := by kernel_rfl
theorem cutPairs_c21 : ((Rows.cutPairsRow.loopsOut == Try.f21.resultTypes.toList.any (Try.checked.prog.loopsFrom ·))) = true := by kernel_rfl
theorem cutPairs_c22 : ((Rows.cutPairsRow.plainKeys == Try.checked.prog.plainKeys)) = true := by kernel_rfl
theorem cutPairs_c23 : (Rows.cutPairsRow.shortTexts.isNone) = true := by kernel_rfl
theorem cutPairs_c24 : (Try.checked.prog.stopsHeard) = true := by kernel_rfl
theorem cutPairs_c28 : ((Rows.cutPairsRow.kinds == (if Rows.cutPairsRow.domain.isEmpty then [] else Try.f21.params.toList.map fun t => match Try.checked.prog.underlying t with | some (.int k) => some k | _ => none))) = true := by kernel_rfl
theorem cutPairs_c29 : ((Rows.cutPairsRow.pinned == Rows.cutPairsRow.pinnedBy)) = true := by kernel_rfl
theorem cutPairs_c30 : ((Rows.cutPairsRow.veiled == (Try.f21.params.toList ++ Rows.cutPairsSpec.plain.varTypes Try.checked.prog ++ Try.f21.resultTypes.toList).any (Try.checked.prog.veiledRec ·))) = true := by kernel_rfl
theorem cutPairs_c31 : (Rows.cutPairsRow.veiledFits Try.checked.prog Try.f21.params.toList (Try.f21.params.toList ++ Rows.cutPairsSpec.plain.varTypes Try.checked.prog ++ Try.f21.resultTypes.toList)) = true := by kernel_rfl
set_option maxRecDepth 100000 in
theorem cutPairs_closed : joinedFacts Try.checked.prog 21 Try.f21 Rows.cutPairsSpec Rows.cutPairsRow = true := by
  unfold joinedFacts
  exact and2 (and2 (and2 (and2 (and2 (and2 (and2 (and2 (and2 (and2 (and2 (and2 (and2 (and2 (and2 (and2 (and2 (and2 (and2 (and2 (and2 (and2 (and2 (and2 (and2 (and2 (and2 (and2 (and2 (and2 (and2 (cutPairs_c0) cutPairs_c1) cutPairs_c2) cutPairs_c3) cutPairs_c4) cutPairs_c5) cutPairs_c6) cutPairs_c7) cutPairs_c8) cutPairs_c9) cutPairs_c10) cutPairs_c11) cutPairs_c12) cutPairs_c13) cutPairs_c14) cutPairs_c15) cutPairs_c16) cutPairs_c17) cutPairs_c18) cutPairs_c19) cutPairs_c20) cutPairs_c21) cutPairs_c22) cutPairs_c23) cutPairs_c24) Try.enters) Try.lifts) Try.made) cutPairs_c28) cutPairs_c29) cutPairs_c30) cutPairs_c31
theorem cutPairs_holds : Rows.CutPairsSaid :=
  OpenClaim.holds_of_wide 21 Try.f21 rfl rfl rfl rfl rfl rfl rfl ⟨rfl, rfl, rfl, rfl, rfl⟩ rfl rfl rfl rfl rfl (by kernel_rfl) Try.func21 cutPairs_closed
    (of_decide_eq_true (by kernel_rfl)) (by unfold Func.isWrapper; first | (rw [if_pos (by decide +kernel)]; kernel_rfl) | (rw [if_neg (by decide +kernel)]; exact ⟨rfl, rfl⟩))
    (fun os started H enc _ => cutPairs_lifted os started H enc)
end Go.Proofs.Ytpojdgeginigjaa
