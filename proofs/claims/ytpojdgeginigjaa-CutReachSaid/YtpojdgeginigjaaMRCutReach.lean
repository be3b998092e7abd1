/- CutReach: the given law answers true, whatever is handed in; what was handed in reads as it did. -/
import Derived.Test.YtpojdgeginigjaaMRow0
import Derived.Test.YtpojdgeginigjaaMRow1
import Derived.Test.YtpojdgeginigjaaMLCutReach
set_option linter.unusedVariables false
namespace Go.Proofs.Ytpojdgeginigjaa
open Go.ChangeShapes Go.WideShapes Go.ChangeAt Go.RowKit

set_option maxRecDepth 100000 in
theorem cutReach_lifted (os : Os) (started : os.Started) (H : Type) (enc : TypeId × Value → H) :
    ReturnsInHanded {} Try.checked os 19 .any (Rows.cutReachSpec.pre6 enc Try.prog Try.f19 Rows.cutReachRow.domain false) (Rows.cutReachSpec.post enc Try.prog Try.f19 false true false false) := by
  refine returnsInHanded_of_change (C := Try.checked) Try.own started (by kernel_rfl) Try.func19
    (ChangeSpec.witness6 (enc := enc) (C := Try.checked) false ⟨#[], #[.agg #[.int .i64 0, .int .i64 0, .int .i64 0, .slice none 0 0], .slice none 0 0], []⟩ 8 (by kernel_rfl) (by kernel_rfl) (by kernel_rfl) (by kernel_rfl)) ?_
  intro W base args ds gs before hval0 hW hcnd _
  have hval : ∀ (j : Nat) t v, Try.f19.params[j]? = some t → args[j]? = some v → Value.okWide Try.prog W .any base t v := hval0
  have hW' := hW
  obtain ⟨p, q, hA0, hV, rfl, hfz, hnd⟩ := hW
  have hA : DataW.TrodAll enc Try.prog W 0 (fun _ => true) true Try.f19.params.toList args.toList ds p := hA0
  rw [Try.params19] at hA hval
  have hA1 := hA
  have walk := Go.Ar.law_walk Try.mixed envOk cutReach_law (fun i t v h1 h2 => hval i t v (by simpa using h1) h2) hA
  obtain ⟨v0, vs0, d0, ds0, p0, q0, hargs, rfl, rfl, h0, r0⟩ := trodAll_cons hA
  obtain ⟨v1, vs1, d1, ds1, p1, q1, rfl, rfl, rfl, h1, r1⟩ := trodAll_cons r0
  obtain ⟨rfl, rfl, rfl⟩ := trodAll_nil r1
  obtain ⟨rfl, rfl⟩ := trodVars_none hV
  refine walk.mono fun e W' ⟨he, bel⟩ => ?_
  subst he
  exact ⟨_, rfl, _, _, _, [], _, [], hW', trodAll_mk1 (shut_bool Try.underlying4 _), Go.Ar.trodAll_below Try.laidOut bel _ _ _ _ (fun t ht => by simp at ht; rcases ht with rfl | rfl <;> exact ⟨by kernel_rfl, of_decide_eq_true (by kernel_rfl)⟩) hA1, rfl, bel.frame _, fun h => by cases h⟩

theorem cutReach_c0 : (Rows.cutReachRow.wf (OpenSpec.ofChange Rows.cutReachSpec)) = true := by kernel_rfl
theorem cutReach_c1 : (laidOutB Try.checked.prog) = true := by kernel_rfl
theorem cutReach_c2 : (mapsRowed Try.checked.prog) = true := by kernel_rfl
theorem cutReach_c3 : (Try.f19.params.all (Try.checked.prog.readableRec ·)) = true := by kernel_rfl
theorem cutReach_c4 : (namedTie Try.checked.prog Rows.cutReachRow.named Rows.cutReachSpec.vars) = true := by kernel_rfl
theorem cutReach_c5 : ((Rows.cutReachRow.stops == [])) = true := by kernel_rfl
theorem cutReach_c6 : ((Try.checked.prog.stops == [])) = true := by kernel_rfl
theorem cutReach_c7 : ((Rows.cutReachRow.knobs == [])) = true := by kernel_rfl
theorem cutReach_c8 : ((Try.checked.prog.stopKnobs == [])) = true := by kernel_rfl
theorem cutReach_c9 : ((Rows.cutReachRow.inPlace == Try.checked.prog.inPlace (19 : FuncId))) = true := by kernel_rfl
theorem cutReach_c10 : ((Rows.cutReachRow.unfollowed == Try.checked.prog.unfollowed (19 : FuncId))) = true := by kernel_rfl
theorem cutReach_c11 : ((Rows.cutReachRow.recurses == Try.checked.prog.recurses (19 : FuncId))) = true := by kernel_rfl
theorem cutReach_c12 : ((Rows.cutReachRow.named == Try.checked.prog.varsNamed (19 : FuncId))) = true := by kernel_rfl
theorem cutReach_c13 : ((Rows.cutReachRow.maps == (Try.f19.params.toList ++ Rows.cutReachSpec.plain.varTypes Try.checked.prog).any (Try.checked.prog.mapsRec ·))) = true := by kernel_rfl
theorem cutReach_c14 : ((Rows.cutReachRow.ifaces == (Try.f19.params.toList ++ Rows.cutReachSpec.plain.varTypes Try.checked.prog).any (Try.checked.prog.ifacesRec ·))) = true := by kernel_rfl
theorem cutReach_c15 : ((Rows.cutReachRow.mapsOut == Try.checked.prog.mapsAmong Try.f19.resultTypes.toList)) = true := by kernel_rfl
theorem cutReach_c16 : ((Rows.cutReachRow.loops == (Try.f19.params.toList ++ Rows.cutReachSpec.plain.varTypes Try.checked.prog).any (Try.checked.prog.loopsFrom ·))) = true := by kernel_rfl
theorem cutReach_c17 : ((Rows.cutReachRow.wideKeys == (Try.f19.params.toList ++ Rows.cutReachSpec.plain.varTypes Try.checked.prog ++ Try.f19.resultTypes.toList).any (Try.checked.prog.wideKeysFrom ·))) = true := by kernel_rfl
theorem cutReach_c18 : (Rows.cutReachSpec.vars.all (Try.checked.prog.varReadable ·)) = true := by kernel_rfl
theorem cutReach_c19 : (Try.f19.resultTypes.all (fun t => Try.checked.prog.readableRec t && decide (t < Try.checked.prog.types.size))) = true := by kernel_rfl
theorem cutReach_c20 : ((Rows.cutReachRow.ifacesOut == Try.f19.resultTypes.toList.any (Try.checked.prog.ifacesRec ·))) = true := by kernel_rfl
theorem cutReach_c21 : ((Rows.cutReachRow.loopsOut == Try.f19.resultTypes.toList.any (Try.checked.prog.loopsFrom ·))) = true := by kernel_rfl
theorem cutReach_c22 : ((Rows.cutReachRow.plainKeys == Try.checked.prog.plainKeys)) = true := by kernel_rfl
theorem cutReach_c23 : (Rows.cutReachRow.shortTexts.isNone) = true := by kernel_rfl
theorem cutReach_c24 : (Try.checked.prog.stopsHeard) = true := by kernel_rfl
theorem cutReach_c28 : ((Rows.cutReachRow.kinds == (if Rows.cutReachRow.domain.isEmpty then [] else Try.f19.params.toList.map fun t => match Try.checked.prog.underlying t with | some (.int k) => some k | _ => none))) = true := by kernel_rfl
theorem cutReach_c29 : ((Rows.cutReachRow.pinned == Rows.cutReachRow.pinnedBy)) = true := by kernel_rfl
theorem cutReach_c30 : ((Rows.cutReachRow.veiled == (Try.f19.params.toList ++ Rows.cutReachSpec.plain.varTypes Try.checked.prog ++ Try.f19.resultTypes.toList).any (Try.checked.prog.veiledRec ·))) = true := by kernel_rfl
theorem cutReach_c31 : (Rows.cutReachRow.veiledFits Try.checked.prog Try.f19.params.toList (Try.f19.params.toList ++ Rows.cutReachSpec.plain.varTypes Try.checked.prog ++ Try.f19.resultTypes.toList)) = true := by kernel_rfl
set_option maxRecDepth 100000 in
theorem cutReach_closed : joinedFacts Try.checked.prog 19 Try.f19 Rows.cutReachSpec Rows.cutReachRow = true := by
  unfold joinedFacts
  exact and2 (and2 (and2 (and2 (and2 (and2 (and2 (and2 (and2 (and2 (and2 (and2 (and2 (and2 (and2 (and2 (and2 (and2 (and2 (and2 (and2 (and2 (and2 (and2 (and2 (and2 (and2 (and2 (and2 (and2 (and2 (cutReach_c0) cutReach_c1) cutReach_c2) cutReach_c3) cutReach_c4) cutReach_c5) cutReach_c6) cutReach_c7) cutReach_c8) cutReach_c9) cutReach_c10) cutReach_c11) cutReach_c12) cutReach_c13) cutReach_c14) cutReach_c15) cutReach_c16) cutReach_c17) cutReach_c18) cutReach_c19) cutReach_c20) cutReach_c21) cutReach_c22) cutReach_c23) cutReach_c24) Try.enters) Try.lifts) Try.made) cutReach_c28) cutReach_c29) cutReach_c30) cutReach_c31
theorem cutReach_holds : Rows.CutReachSaid :=
  OpenClaim.holds_of_wide 19 Try.f19 rfl rfl rfl rfl rfl rfl rfl ⟨rfl, rfl, rfl, rfl, rfl⟩ rfl rfl rfl rfl rfl (by kernel_rfl) Try.func19 cutReach_closed
    (of_decide_eq_true (by kernel_rfl)) (by unfold Func.isWrapper; first | (rw [if_pos (by decide +kernel)]; kernel_rfl) | (rw [if_neg (by decide +kernel)]; exact ⟨rfl, rfl⟩))
    (fun os started H enc _ => cutReach_lifted os started H enc)
end Go.Proofs.Ytpojdgeginigjaa
