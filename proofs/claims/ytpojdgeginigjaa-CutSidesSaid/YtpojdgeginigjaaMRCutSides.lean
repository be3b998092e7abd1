/- CutSides: the given law answers true, whatever is handed in; what was handed in reads as it did. -/
import Derived.Test.YtpojdgeginigjaaMRow0
import Derived.Test.YtpojdgeginigjaaMRow1
import Derived.Test.YtpojdgeginigjaaMLCutSides
set_option linter.unusedVariables false
namespace Go.Proofs.Ytpojdgeginigjaa
open Go.ChangeShapes Go.WideShapes Go.ChangeAt Go.RowKit

set_option maxRecDepth 100000 in
theorem cutSides_lifted (os : Os) (started : os.Started) (H : Type) (enc : TypeId × Value → H) :
    ReturnsInHanded {} Try.checked os 20 .any (Rows.cutSidesSpec.pre6 enc Try.prog Try.f20 Rows.cutSidesRow.domain false) (Rows.cutSidesSpec.post enc Try.prog Try.f20 false true false false) := by
  refine returnsInHanded_of_change (C := Try.checked) Try.own started (by kernel_rfl) Try.func20
    (ChangeSpec.witness6 (enc := enc) (C := Try.checked) false ⟨#[], #[.agg #[.int .i64 0, .int .i64 0, .int .i64 0, .slice none 0 0], .slice none 0 0, .int .u8 0], []⟩ 8 (by kernel_rfl) (by kernel_rfl) (by kernel_rfl) (by kernel_rfl)) ?_
  intro W base args ds gs before hval0 hW hcnd _
  have hval : ∀ (j : Nat) t v, Try.f20.params[j]? = some t → args[j]? = some v → Value.okWide Try.prog W .any base t v := hval0
  have hW' := hW
  obtain ⟨p, q, hA0, hV, rfl, hfz, hnd⟩ := hW
  have hA : DataW.TrodAll enc Try.prog W 0 (fun _ => true) true Try.f20.params.toList args.toList ds p := hA0
  rw [Try.params20] at hA hval
  have hA1 := hA
  have walk := Go.Ar.law_walk Try.mixed envOk cutSides_law (fun i t v h1 h2 => hval i t v (by simpa using h1) h2) hA
  obtain ⟨v0, vs0, d0, ds0, p0, q0, hargs, rfl, rfl, h0, r0⟩ := trodAll_cons hA
  obtain ⟨v1, vs1, d1, ds1, p1, q1, rfl, rfl, rfl, h1, r1⟩ := trodAll_cons r0
  obtain ⟨v2, vs2, d2, ds2, p2, q2, rfl, rfl, rfl, h2, r2⟩ := trodAll_cons r1
  obtain ⟨rfl, rfl, rfl⟩ := trodAll_nil r2
  obtain ⟨rfl, rfl⟩ := trodVars_none hV
  refine walk.mono fun e W' ⟨he, bel⟩ => ?_
  subst he
  exact ⟨_, rfl, _, _, _, [], _, [], hW', trodAll_mk1 (shut_bool Try.underlying4 _), Go.Ar.trodAll_below Try.laidOut bel _ _ _ _ (fun t ht => by simp at ht; rcases ht with rfl | rfl | rfl <;> exact ⟨by kernel_rfl, of_decide_eq_true (by kernel_rfl)⟩) hA1, rfl, bel.frame _, fun h => by cases h⟩

theorem cutSides_c0 : (Rows.cutSidesRow.wf (OpenSpec.ofChange Rows.cutSidesSpec)) = true := by kernel_rfl
theorem cutSides_c1 : (laidOutB Try.checked.prog) = true := by kernel_rfl
theorem cutSides_c2 : (mapsRowed Try.checked.prog) = true := by kernel_rfl
theorem cutSides_c3 : (Try.f20.params.all (Try.checked.prog.readableRec ·)) = true := by kernel_rfl
theorem cutSides_c4 : (namedTie Try.checked.prog Rows.cutSidesRow.named Rows.cutSidesSpec.vars) = true := by kernel_rfl
theorem cutSides_c5 : ((Rows.cutSidesRow.stops == [])) = true := by kernel_rfl
theorem cutSides_c6 : ((Try.checked.prog.stops == [])) = true := by kernel_rfl
theorem cutSides_c7 : ((Rows.cutSidesRow.knobs == [])) = true := by kernel_rfl
theorem cutSides_c8 : ((Try.checked.prog.stopKnobs == [])) = true := by kernel_rfl
theorem cutSides_c9 : ((Rows.cutSidesRow.inPlace == Try.checked.prog.inPlace (20 : FuncId))) = true := by kernel_rfl
theorem cutSides_c10 : ((Rows.cutSidesRow.unfollowed == Try.checked.prog.unfollowed (20 : FuncId))) = true := by kernel_rfl
theorem cutSides_c11 : ((Rows.cutSidesRow.recurses == Try.checked.prog.recurses (20 : FuncId))) = true := by kernel_rfl
theorem cutSides_c12 : ((Rows.cutSidesRow.named == Try.checked.prog.varsNamed (20 : FuncId))) = true := by kernel_rfl
theorem cutSides_c13 : ((Rows.cutSidesRow.maps == (Try.f20.params.toList ++ Rows.cutSidesSpec.plain.varTypes Try.checked.prog).any (Try.checked.prog.mapsRec ·))) = true := by kernel_rfl
theorem cutSides_c14 : ((Rows.cutSidesRow.ifaces == (Try.f20.params.toList ++ Rows.cutSidesSpec.plain.varTypes Try.checked.prog).any (Try.checked.prog.ifacesRec ·))) = true := by kernel_rfl
theorem cutSides_c15 : ((Rows.cutSidesRow.mapsOut == Try.checked.prog.mapsAmong Try.f20.resultTypes.toList)) = true := by kernel_rfl
theorem cutSides_c16 : ((Rows.cutSidesRow.loops == (Try.f20.params.toList ++ Rows.cutSidesSpec.plain.varTypes Try.checked.prog).any (Try.checked.prog.loopsFrom ·))) = true := by kernel_rfl
theorem cutSides_c17 : ((Rows.cutSidesRow.wideKeys == (Try.f20.params.toList ++ Rows.cutSidesSpec.plain.varTypes Try.checked.prog ++ Try.f20.resultTypes.toList).any (Try.checked.prog.wideKeysFrom ·))) = true := by kernel_rfl
theorem cutSides_c18 : (Rows.cutSidesSpec.vars.all (Try.checked.prog.varReadable ·)) = true := by kernel_rfl
theorem cutSides_c19 : (Try.f20.resultTypes.all (fun t => Try.checked.prog.readableRec t && decide (t < Try.checked.prog.types.size))) = true := by kernel_rfl
theorem cutSides_c20 : ((Rows.cutSidesRow.ifacesOut == Try.f20.resultTypes.toList.any (Try.checked.prog.ifacesRec ·))) = true := by kernel_rfl
theorem cutSides_c21 : ((Rows.cutSidesRow.loopsOut == Try.f20.resultTypes.toList.any (Try.checked.prog.loopsFrom ·))) = true := by kernel_rfl
theorem cutSides_c22 : ((Rows.cutSidesRow.plainKeys == Try.checked.prog.plainKeys)) = true := by kernel_rfl
theorem cutSides_c23 : (Rows.cutSidesRow.shortTexts.isNone) = true := by kernel_rfl
theorem cutSides_c24 : (Try.checked.prog.stopsHeard) = true := by kernel_rfl
theorem cutSides_c28 : ((Rows.cutSidesRow.kinds == (if Rows.cutSidesRow.domain.isEmpty then [] else Try.f20.params.toList.map fun t => match Try.checked.prog.underlying t with | some (.int k) => some k | _ => none))) = true := by kernel_rfl
theorem cutSides_c29 : ((Rows.cutSidesRow.pinned == Rows.cutSidesRow.pinnedBy)) = true := by kernel_rfl
theorem cutSides_c30 : ((Rows.cutSidesRow.veiled == (Try.f20.params.toList ++ Rows.cutSidesSpec.plain.varTypes Try.checked.prog ++ Try.f20.resultTypes.toList).any (Try.checked.prog.veiledRec ·))) = true := by kernel_rfl
theorem cutSides_c31 : (Rows.cutSidesRow.veiledFits Try.checked.prog Try.f20.params.toList (Try.f20.params.toList ++ Rows.cutSidesSpec.plain.varTypes Try.checked.prog ++ Try.f20.resultTypes.toList)) = true := by kernel_rfl
set_option maxRecDepth 100000 in
theorem cutSides_closed : joinedFacts Try.checked.prog 20 Try.f20 Rows.cutSidesSpec Rows.cutSidesRow = true := by
  unfold joinedFacts
  exact and2 (and2 (and2 (and2 (and2 (and2 (and2 (and2 (and2 (and2 (and2 (and2 (and2 (and2 (and2 (and2 (and2 (and2 (and2 (and2 (and2 (and2 (and2 (and2 (and2 (and2 (and2 (and2 (and2 (and2 (and2 (cutSides_c0) cutSides_c1) cutSides_c2) cutSides_c3) cutSides_c4) cutSides_c5) cutSides_c6) cutSides_c7) cutSides_c8) cutSides_c9) cutSides_c10) cutSides_c11) cutSides_c12) cutSides_c13) cutSides_c14) cutSides_c15) cutSides_c16) cutSides_c17) cutSides_c18) cutSides_c19) cutSides_c20) cutSides_c21) cutSides_c22) cutSides_c23) cutSides_c24) Try.enters) Try.lifts) Try.made) cutSides_c28) cutSides_c29) cutSides_c30) cutSides_c31
theorem cutSides_holds : Rows.CutSidesSaid :=
  OpenClaim.holds_of_wide 20 Try.f20 rfl rfl rfl rfl rfl rfl rfl ⟨rfl, rfl, rfl, rfl, rfl⟩ rfl rfl rfl rfl rfl (by kernel_rfl) Try.func20 cutSides_closed
    (of_decide_eq_true (by kernel_rfl)) (by unfold Func.isWrapper; first | (rw [if_pos (by decide +kernel)]; kernel_rfl) | (rw [if_neg (by decide +kernel)]; exact ⟨rfl, rfl⟩))
    (fun os started H enc _ => cutSides_lifted os started H enc)
end Go.Proofs.Ytpojdgeginigjaa
