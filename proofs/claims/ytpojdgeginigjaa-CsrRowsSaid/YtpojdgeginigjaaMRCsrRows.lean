/- CsrRows: the given law answers true, whatever is handed in; what was handed in reads as it did. -/
import Derived.Test.YtpojdgeginigjaaMRow0
import Derived.Test.YtpojdgeginigjaaMRow1
import Derived.Test.YtpojdgeginigjaaMLCsrRows
set_option linter.unusedVariables false
namespace Go.Proofs.Ytpojdgeginigjaa
open Go.ChangeShapes Go.WideShapes Go.ChangeAt Go.RowKit

set_option maxRecDepth 100000 in
theorem csrRows_lifted (os : Os) (started : os.Started) (H : Type) (enc : TypeId × Value → H) :
    ReturnsInHanded {} Try.checked os 18 .any (Rows.csrRowsSpec.pre6 enc Try.prog Try.f18 Rows.csrRowsRow.domain false) (Rows.csrRowsSpec.post enc Try.prog Try.f18 false true false false) := by
  refine returnsInHanded_of_change (C := Try.checked) Try.own started (by kernel_rfl) Try.func18
    (ChangeSpec.witness6 (enc := enc) (C := Try.checked) false ⟨#[], #[.agg #[.int .i64 0, .int .i64 0, .int .i64 0, .slice none 0 0]], []⟩ 8 (by kernel_rfl) (by kernel_rfl) (by kernel_rfl) (by kernel_rfl)) ?_
  intro W base args ds gs before hval0 hW hcnd _
  have hval : ∀ (j : Nat) t v, Try.f18.params[j]? = some t → args[j]? = some v → Value.okWide Try.prog W .any base t v := hval0
  have hW' := hW
  obtain ⟨p, q, hA0, hV, rfl, hfz, hnd⟩ := hW
  have hA : DataW.TrodAll enc Try.prog W 0 (fun _ => true) true Try.f18.params.toList args.toList ds p := hA0
  rw [Try.params18] at hA hval
  have hA1 := hA
  have walk := Go.Ar.law_walk Try.mixed envOk csrRows_law (fun i t v h1 h2 => hval i t v (by simpa using h1) h2) hA
  obtain ⟨v0, vs0, d0, ds0, p0, q0, hargs, rfl, rfl, h0, r0⟩ := trodAll_cons hA
  obtain ⟨rfl, rfl, rfl⟩ := trodAll_nil r0
  obtain ⟨rfl, rfl⟩ := trodVars_none hV
  refine walk.mono fun e W' ⟨he, bel⟩ => ?_
  subst he
  exact ⟨_, rfl, _, _, _, [], _, [], hW', trodAll_mk1 (shut_bool Try.underlying4 _), Go.Ar.trodAll_below Try.laidOut bel _ _ _ _ (fun t ht => by simp at ht; rcases ht with rfl <;> exact ⟨by kernel_rfl, of_decide_eq_true (by kernel_rfl)⟩) hA1, rfl, bel.frame _, fun h => by cases h⟩

theorem csrRows_c0 : (Rows.csrRowsRow.wf (OpenSpec.ofChange Rows.csrRowsSpec)) = true := by kernel_rfl
theorem csrRows_c1 : (laidOutB Try.checked.prog) = true := by kernel_rfl
theorem csrRows_c2 : (mapsRowed Try.checked.prog) = true := by kernel_rfl
theorem csrRows_c3 : (Try.f18.params.all (Try.checked.prog.readableRec ·)) = true := by kernel_rfl
theorem csrRows_c4 : (namedTie Try.checked.prog Rows.csrRowsRow.named Rows.csrRowsSpec.vars) = true := by kernel_rfl
theorem csrRows_c5 : ((Rows.csrRowsRow.stops == [])) = true := by kernel_rfl
theorem csrRows_c6 : ((Try.checked.prog.stops == [])) = true := by kernel_rfl
theorem csrRows_c7 : ((Rows.csrRowsRow.knobs == [])) = true := by kernel_rfl
theorem csrRows_c8 : ((Try.checked.prog.stopKnobs == [])) = true := by kernel_rfl
theorem csrRows_c9 : ((Rows.csrRowsRow.inPlace == Try.checked.prog.inPlace (18 : FuncId))) = true := by kernel_rfl
theorem csrRows_c10 : ((Rows.csrRowsRow.unfollowed == Try.checked.prog.unfollowed (18 : FuncId))) = true := by kernel_rfl
theorem csrRows_c11 : ((Rows.csrRowsRow.recurses == Try.checked.prog.recurses (18 : FuncId))) = true := by kernel_rfl
theorem csrRows_c12 : ((Rows.csrRowsRow.named == Try.checked.prog.varsNamed (18 : FuncId))) = true := by kernel_rfl
theorem csrRows_c13 : ((Rows.csrRowsRow.maps == (Try.f18.params.toList ++ Rows.csrRowsSpec.plain.varTypes Try.checked.prog).any (Try.checked.prog.mapsRec ·))) = true := by kernel_rfl
theorem csrRows_c14 : ((Rows.csrRowsRow.ifaces == (Try.f18.params.toList ++ Rows.csrRowsSpec.plain.varTypes Try.checked.prog).any (Try.checked.prog.ifacesRec ·))) = true := by kernel_rfl
theorem csrRows_c15 : ((Rows.csrRowsRow.mapsOut == Try.checked.prog.mapsAmong Try.f18.resultTypes.toList)) = true := by kernel_rfl
theorem csrRows_c16 : ((Rows.csrRowsRow.loops == (Try.f18.params.toList ++ Rows.csrRowsSpec.plain.varTypes Try.checked.prog).any (Try.checked.prog.loopsFrom ·))) = true := by kernel_rfl
theorem csrRows_c17 : ((Rows.csrRowsRow.wideKeys == (Try.f18.params.toList ++ Rows.csrRowsSpec.plain.varTypes Try.checked.prog ++ Try.f18.resultTypes.toList).any (Try.checked.prog.wideKeysFrom ·))) = true := by kernel_rfl
theorem csrRows_c18 : (Rows.csrRowsSpec.vars.all (Try.checked.prog.varReadable ·)) = true := by kernel_rfl
theorem csrRows_c19 : (Try.f18.resultTypes.all (fun t => Try.checked.prog.readableRec t && decide (t < Try.checked.prog.types.size))) = true := by kernel_rfl
theorem csrRows_c20 : ((Rows.csrRowsRow.ifacesOut == Try.f18.resultTypes.toList.any (Try.checked.prog.ifacesRec ·))) = true := by kernel_rfl
theorem csrRows_c21 : ((Rows.csrRowsRow.loopsOut == Try.f18.resultTypes.toList.any (Try.checked.prog.loopsFrom ·))) = true := by kernel_rfl
theorem csrRows_c22 : ((Rows.csrRowsRow.plainKeys == Try.checked.prog.plainKeys)) = true := by kernel_rfl
theorem csrRows_c23 : (Rows.csrRowsRow.shortTexts.isNone) = true := by kernel_rfl
theorem csrRows_c24 : (Try.checked.prog.stopsHeard) = true := by kernel_rfl
theorem csrRows_c28 : ((Rows.csrRowsRow.kinds == (if Rows.csrRowsRow.domain.isEmpty then [] else Try.f18.params.toList.map fun t => match Try.checked.prog.underlying t with | some (.int k) => some k | _ => none))) = true := by kernel_rfl
theorem csrRows_c29 : ((Rows.csrRowsRow.pinned == Rows.csrRowsRow.pinnedBy)) = true := by kernel_rfl
theorem csrRows_c30 : ((Rows.csrRowsRow.veiled == (Try.f18.params.toList ++ Rows.csrRowsSpec.plain.varTypes Try.checked.prog ++ Try.f18.resultTypes.toList).any (Try.checked.prog.veiledRec ·))) = true := by kernel_rfl
theorem csrRows_c31 : (Rows.csrRowsRow.veiledFits Try.checked.prog Try.f18.params.toList (Try.f18.params.toList ++ Rows.csrRowsSpec.plain.varTypes Try.checked.prog ++ Try.f18.resultTypes.toList)) = true := by kernel_rfl
set_option maxRecDepth 100000 in
theorem csrRows_closed : joinedFacts Try.checked.prog 18 Try.f18 Rows.csrRowsSpec Rows.csrRowsRow = true := by
  unfold joinedFacts
  exact and2 (and2 (and2 (and2 (and2 (and2 (and2 (and2 (and2 (and2 (and2 (and2 (and2 (and2 (and2 (and2 (and2 (and2 (and2 (and2 (and2 (and2 (and2 (and2 (and2 (and2 (and2 (and2 (and2 (and2 (and2 (csrRows_c0) csrRows_c1) csrRows_c2) csrRows_c3) csrRows_c4) csrRows_c5) csrRows_c6) csrRows_c7) csrRows_c8) csrRows_c9) csrRows_c10) csrRows_c11) csrRows_c12) csrRows_c13) csrRows_c14) csrRows_c15) csrRows_c16) csrRows_c17) csrRows_c18) csrRows_c19) csrRows_c20) csrRows_c21) csrRows_c22) csrRows_c23) csrRows_c24) Try.enters) Try.lifts) Try.made) csrRows_c28) csrRows_c29) csrRows_c30) csrRows_c31
theorem csrRows_holds : Rows.CsrRowsSaid :=
  OpenClaim.holds_of_wide 18 Try.f18 rfl rfl rfl rfl rfl rfl rfl ⟨rfl, rfl, rfl, rfl, rfl⟩ rfl rfl rfl rfl rfl (by kernel_rfl) Try.func18 csrRows_closed
    (of_decide_eq_true (by kernel_rfl)) (by unfold Func.isWrapper; first | (rw [if_pos (by decide +kernel)]; kernel_rfl) | (rw [if_neg (by decide +kernel)]; exact ⟨rfl, rfl⟩))
    (fun os started H enc _ => csrRows_lifted os started H enc)
end Go.Proofs.Ytpojdgeginigjaa
