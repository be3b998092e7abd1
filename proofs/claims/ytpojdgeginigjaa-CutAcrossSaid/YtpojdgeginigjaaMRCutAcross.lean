/- CutAcross: the given law answers true, whatever is handed in; what was handed in reads as it did. -/
import Derived.Test.YtpojdgeginigjaaMRow0
import Derived.Test.YtpojdgeginigjaaMRow1
import Derived.Test.YtpojdgeginigjaaMLCutAcross
set_option linter.unusedVariables false
namespace Go.Proofs.Ytpojdgeginigjaa
open Go.ChangeShapes Go.WideShapes Go.ChangeAt Go.RowKit

set_option maxRecDepth 100000 in
theorem cutAcross_lifted (os : Os) (started : os.Started) (H : Type) (enc : TypeId × Value → H) :
    ReturnsInHanded {} Try.checked os 22 .any (Rows.cutAcrossSpec.pre6 enc Try.prog Try.f22 Rows.cutAcrossRow.domain false) (Rows.cutAcrossSpec.post enc Try.prog Try.f22 false true false false) := by
  refine returnsInHanded_of_change (C := Try.checked) Try.own started (by kernel_rfl) Try.func22
    (ChangeSpec.witness6 (enc := enc) (C := Try.checked) false ⟨#[], #[.agg #[.int .i64 0, .int .i64 0, .int .i64 0, .slice none 0 0], .slice none 0 0, .slice none 0 0], []⟩ 8 (by kernel_rfl) (by kernel_rfl) (by kernel_rfl) (by kernel_rfl)) ?_
  intro W base args ds gs before hval0 hW hcnd _
  have hval : ∀ (j : Nat) t v, Try.f22.params[j]? = some t → args[j]? = some v → Value.okWide Try.prog W .any base t v := hval0
  have hW' := hW
  obtain ⟨p, q, hA0, hV, rfl, hfz, hnd⟩ := hW
  have hA : DataW.TrodAll enc Try.prog W 0 (fun _ => true) true Try.f22.params.toList args.toList ds p := hA0
  rw [Try.params22] at hA hval
  have hA1 := hA
  have walk := Go.Ar.law_walk Try.mixed envOk cutAcross_law (fun i t v h1 h2 => hval i t v (by simpa using h1) h2) hA
  obtain ⟨v0, vs0, d0, ds0, p0, q0, hargs, rfl, rfl, h0, r0⟩ := trodAll_cons hA
  obtain ⟨v1, vs1, d1, ds1, p1, q1, rfl, rfl, rfl, h1, r1⟩ := trodAll_cons r0
  obtain ⟨v2, vs2, d2, ds2, p2, q2, rfl, rfl, rfl, h2, r2⟩ := trodAll_cons r1
  obtain ⟨rfl, rfl, rfl⟩ := trodAll_nil r2
  obtain ⟨rfl, rfl⟩ := trodVars_none hV
  refine walk.mono fun e W' ⟨he, bel⟩ => ?_
  subst he
  exact ⟨_, rfl, _, _, _, [], _, [], hW', trodAll_mk1 (shut_bool Try.underlying4 _), Go.Ar.trodAll_below Try.laidOut bel _ _ _ _ (fun t ht => by simp at ht; rcases ht with rfl | rfl | rfl <;> exact ⟨by kernel_rfl, of_decide_eq_true (by kernel_rfl)⟩) hA1, rfl, bel.frame _, fun h => by cases h⟩

theorem cutAcross_c0 : (Rows.cutAcrossRow.wf (OpenSpec.ofChange Rows.cutAcrossSpec)) = true := by kernel_rfl
theorem cutAcross_c1 : (laidOutB Try.checked.prog) = true := by kernel_rfl
theorem cutAcross_c2 : (mapsRowed Try.checked.prog) = true := by kernel_rfl
theorem cutAcross_c3 : (Try.f22.params.all (Try.checked.prog.readableRec ·)) = true := by kernel_rfl
theorem cutAcross_c4 : (namedTie Try.checked.prog Rows.cutAcrossRow.named Rows.cutAcrossSpec.vars) = true := by kernel_rfl
theorem cutAcross_c5 : ((Rows.cutAcrossRow.stops == [])) = true := by kernel_rfl
theorem cutAcross_c6 : ((Try.checked.prog.stops == [])) = true := by kernel_rfl
theorem cutAcross_c7 : ((Rows.cutAcrossRow.knobs == [])) = true := by kernel_rfl
theorem cutAcross_c8 : ((Try.checked.prog.stopKnobs == [])) = true := by kernel_rfl
theorem cutAcross_c9 : ((Rows.cutAcrossRow.inPlace == Try.checked.prog.inPlace (22 : FuncId))) = true := by kernel_rfl
theorem cutAcross_c10 : ((Rows.cutAcrossRow.unfollowed == Try.checked.prog.unfollowed (22 : FuncId))) = true := by kernel_rfl
theorem cutAcross_c11 : ((Rows.cutAcrossRow.recurses == Try.checked.prog.recurses (22 : FuncId))) = true := by kernel_rfl
theorem cutAcross_c12 : ((Rows.cutAcrossRow.named == Try.checked.prog.varsNamed (22 : FuncId))) = true := by kernel_rfl
theorem cutAcross_c13 : ((Rows.cutAcrossRow.maps == (Try.f22.params.toList ++ Rows.cutAcrossSpec.plain.varTypes Try.checked.prog).any (Try.checked.prog.mapsRec ·))) = true := by kernel_rfl
theorem cutAcross_c14 : ((Rows.cutAcrossRow.ifaces == (Try.f22.params.toList ++ Rows.cutAcrossSpec.plain.varTypes Try.checked.prog).any (Try.checked.prog.ifacesRec ·))) = true := by kernel_rfl
theorem cutAcross_c15 : ((Rows.cutAcrossRow.mapsOut == Try.checked.prog.mapsAmong Try.f22.resultTypes.toList)) = true := by kernel_rfl
theorem cutAcross_c16 : ((Rows.cutAcrossRow.loops == (Try.f22.params.toList ++ Rows.cutAcrossSpec.plain.varTypes Try.checked.prog).any (Try.checked.prog.loopsFrom ·))) = true := by kernel_rfl
theorem cutAcross_c17 : ((Rows.cutAcrossRow.wideKeys == (Try.f22.params.toList ++ Rows.cutAcrossSpec.plain.varTypes Try.checked.prog ++ Try.f22.resultTypes.toList).any (Try.checked.prog.wideKeysFrom ·))) = true := by kernel_rfl
theorem cutAcross_c18 : (Rows.cutAcrossSpec.vars.all (Try.checked.prog.varReadable ·)) = true := by kernel_rfl
theorem cutAcross_c19 : (Try.f22.resultTypes.all (fun t => Try.checked.prog.readableRec t && decide (t < Try.checked.prog.types.size))) = true := by kernel_rfl
theorem cutAcross_c20 : ((Rows.cutAcrossRow.ifacesOut == Try.f22.resultTypes.toList.any (Try.checked.prog.ifacesRec ·))) = true := by kernel_rfl
theorem cutAcross_c21 : ((Rows.cutAcrossRow.loopsOut == Try.f22.resultTypes.toList.any (Try.checked.prog.loopsFrom ·))) = true := by kernel_rfl
theorem cutAcross_c22 : ((Rows.cutAcrossRow.plainKeys == Try.checked.prog.plainKeys)) = true := by kernel_rfl
theorem cutAcross_c23 : (Rows.cutAcrossRow.shortTexts.isNone) = true := by kernel_rfl
theorem cutAcross_c24 : (Try.checked.prog.stopsHeard) = true := by kernel_rfl
theorem cutAcross_c28 : ((Rows.cutAcrossRow.kinds == (if Rows.cutAcrossRow.domain.isEmpty then [] else Try.f22.params.toList.map fun t => match Try.checked.prog.underlying t with | some (.int k) => some k | _ => none))) = true := by kernel_rfl
theorem cutAcross_c29 : ((Rows.cutAcrossRow.pinned == Rows.cutAcrossRow.pinnedBy)) = true := by kernel_rfl
theorem cutAcross_c30 : ((Rows.cutAcrossRow.veiled == (Try.f22.params.toList ++ Rows.cutAcrossSpec.plain.varTypes Try.checked.prog ++ Try.f22.resultTypes.toList).any (Try.checked.prog.veiledRec ·))) = true := by kernel_rfl
theorem cutAcross_c31 : (Rows.cutAcrossRow.veiledFits Try.checked.prog Try.f22.params.toList (Try.f22.params.toList ++ Rows.cutAcrossSpec.plain.varTypes Try.checked.prog ++ Try.f22.resultTypes.toList)) = true := by kernel_rfl
set_option maxRecDepth 100000 in
theorem cutAcross_closed : joinedFacts Try.checked.prog 22 Try.f22 Rows.cutAcrossSpec Rows.cutAcrossRow = true := by
  unfold joinedFacts
  exact and2 (and2 (and2 (and2 (and2 (and2 (and2 (and2 (and2 (and2 (and2 (and2 (and2 (and2 (and2 (and2 (and2 (and2 (and2 (and2 (and2 (and2 (and2 (and2 (and2 (and2 (and2 (and2 (and2 (and2 (and2 (cutAcross_c0) cutAcross_c1) cutAcross_c2) cutAcross_c3) cutAcross_c4) cutAcross_c5) cutAcross_c6) cutAcross_c7) cutAcross_c8) cutAcross_c9) cutAcross_c10) cutAcross_c11) cutAcross_c12) cutAcross_c13) cutAcross_c14) cutAcross_c15) cutAcross_c16) cutAcross_c17) cutAcross_c18) cutAcross_c19) cutAcross_c20) cutAcross_c21) cutAcross_c22) cutAcross_c23) cutAcross_c24) Try.enters) Try.lifts) Try.made) cutAcross_c28) cutAcross_c29) cutAcross_c30) cutAcross_c31
theorem cutAcross_holds : Rows.CutAcrossSaid :=
  OpenClaim.holds_of_wide 22 Try.f22 rfl rfl rfl rfl rfl rfl rfl ⟨rfl, rfl, rfl, rfl, rfl⟩ rfl rfl rfl rfl rfl (by kernel_rfl) Try.func22 cutAcross_closed
    (of_decide_eq_true (by kernel_rfl)) (by unfold Func.isWrapper; first | (rw [if_pos (by decide +kernel)]; kernel_rfl) | (rw [if_neg (by decide +kernel)]; exact ⟨rfl, rfl⟩))
    (fun os started H enc _ => cutAcross_lifted os started H enc)
end Go.Proofs.Ytpojdgeginigjaa
