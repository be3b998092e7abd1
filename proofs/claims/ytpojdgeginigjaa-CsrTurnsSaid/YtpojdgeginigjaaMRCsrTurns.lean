/- CsrTurns: the given law answers true, whatever is handed in; what was handed in reads as it did. -/
import Derived.Test.YtpojdgeginigjaaMRow0
import Derived.Test.YtpojdgeginigjaaMRow1
import Derived.Test.YtpojdgeginigjaaMLCsrTurns
set_option linter.unusedVariables false
namespace Go.Proofs.Ytpojdgeginigjaa
open Go.ChangeShapes Go.WideShapes Go.ChangeAt Go.RowKit

set_option maxRecDepth 100000 in
theorem csrTurns_lifted (os : Os) (started : os.Started) (H : Type) (enc : TypeId × Value → H) :
    ReturnsInHanded {} Try.checked os 10 .any (Rows.csrTurnsSpec.pre6 enc Try.prog Try.f10 Rows.csrTurnsRow.domain false) (Rows.csrTurnsSpec.post enc Try.prog Try.f10 false true false false) := by
  refine returnsInHanded_of_change (C := Try.checked) Try.own started (by kernel_rfl) Try.func10
    (ChangeSpec.witness6 (enc := enc) (C := Try.checked) false ⟨#[], #[.agg #[.int .i64 0, .int .i64 0, .int .i64 0, .slice none 0 0], .slice none 0 0], []⟩ 8 (by kernel_rfl) (by kernel_rfl) (by kernel_rfl) (by kernel_rfl)) ?_
  intro W base args ds gs before hval0 hW hcnd _
  have hval : ∀ (j : Nat) t v, Try.f10.params[j]? = some t → args[j]? = some v → Value.okWide Try.prog W .any base t v := hval0
  have hW' := hW
  obtain ⟨p, q, hA0, hV, rfl, hfz, hnd⟩ := hW
  have hA : DataW.TrodAll enc Try.prog W 0 (fun _ => true) true Try.f10.params.toList args.toList ds p := hA0
  rw [Try.params10] at hA hval
  have hA1 := hA
  have walk := Go.Ar.law_walk Try.mixed envOk csrTurns_law (fun i t v h1 h2 => hval i t v (by simpa using h1) h2) hA
  obtain ⟨v0, vs0, d0, ds0, p0, q0, hargs, rfl, rfl, h0, r0⟩ := trodAll_cons hA
  obtain ⟨v1, vs1, d1, ds1, p1, q1, rfl, rfl, rfl, h1, r1⟩ := trodAll_cons r0
  obtain ⟨rfl, rfl, rfl⟩ := trodAll_nil r1
  obtain ⟨rfl, rfl⟩ := trodVars_none hV
  refine walk.mono fun e W' ⟨he, bel⟩ => ?_
  subst he
  exact ⟨_, rfl, _, _, _, [], _, [], hW', trodAll_mk1 (shut_bool Try.underlying4 _), Go.Ar.trodAll_below Try.laidOut bel _ _ _ _ (fun t ht => by simp at ht; rcases ht with rfl | rfl <;> exact ⟨by kernel_rfl, of_decide_eq_true (by kernel_rfl)⟩) hA1, rfl, bel.frame _, fun h => by cases h⟩

theorem csrTurns_c0 : (Rows.csrTurnsRow.wf (OpenSpec.ofChange Rows.csrTurnsSpec)) = true := by kernel_rfl
theorem csrTurns_c1 : (laidOutB Try.checked.prog) = true := by kernel_rfl
theorem csrTurns_c2 : (mapsRowed Try.checked.prog) = true := by kernel_rfl
theorem csrTurns_c3 : (Try.f10.params.all (Try.checked.prog.readableRec ·)) = true := by kernel_rfl
theorem csrTurns_c4 : (namedTie Try.checked.prog Rows.csrTurnsRow.named Rows.csrTurnsSpec.vars) = true := by kernel_rfl
theorem csrTurns_c5 : ((Rows.csrTurnsRow.stops == [])) = true := by kernel_rfl
theorem csrTurns_c6 : ((Try.checked.prog.stops == [])) = true := by kernel_rfl
theorem csrTurns_c7 : ((Rows.csrTurnsRow.knobs == [])) = true := by kernel_rfl
theorem csrTurns_c8 : ((Try.checked.prog.stopKnobs == [])) = true := by kernel_rfl
theorem csrTurns_c9 : ((Rows.csrTurnsRow.inPlace == Try.checked.prog.inPlace (10 : FuncId))) = true := by kernel_rfl
theorem csrTurns_c10 : ((Rows.csrTurnsRow.unfollowed == Try.checked.prog.unfollowed (10 : FuncId))) = true := by kernel_rfl
theorem csrTurns_c11 : ((Rows.csrTurnsRow.recurses == Try.checked.prog.recurses (10 : FuncId))) = true := by kernel_rfl
theorem csrTurns_c12 : ((Rows.csrTurnsRow.named == Try.checked.prog.varsNamed (10 : FuncId))) = true := by kernel_rfl
theorem csrTurns_c13 : ((Rows.csrTurnsRow.maps == (Try.f10.params.toList ++ Rows.csrTurnsSpec.plain.varTypes Try.checked.prog).any (Try.checked.prog.mapsRec ·))) = true := by kernel_rfl
theorem csrTurns_c14 : ((Rows.csrTurnsRow.ifaces == (Try.f10.params.toList ++ Rows.csrTurnsSpec.plain.varTypes Try.checked.prog).any (Try.checked.prog.ifacesRec ·))) = true := by kernel_rfl
theorem csrTurns_c15 : ((Rows.csrTurnsRow.mapsOut == Try.checked.prog.mapsAmong Try.f10.resultTypes.toList)) = true := by kernel_rfl
theorem csrTurns_c16 : ((Rows.csrTurnsRow.loops == (Try.f10.params.toList ++ Rows.csrTurnsSpec.plain.varTypes Try.checked.prog).any (Try.checked.prog.loopsFrom ·))) = true := by kernel_rfl
theorem csrTurns_c17 : ((Rows.csrTurnsRow.wideKeys == (Try.f10.params.toList ++ Rows.csrTurnsSpec.plain.varTypes Try.checked.prog ++ Try.f10.resultTypes.toList).any (Try.checked.prog.wideKeysFrom ·))) = true := by kernel_rfl
theorem csrTurns_c18 : (Rows.csrTurnsSpec.vars.all (Try.checked.prog.varReadable ·)) = true := by kernel_rfl
theorem csrTurns_c19 : (Try.f10.resultTypes.all (fun t => Try.checked.prog.readableRec t && decide (t < Try.checked.prog.types.size))) = true := by kernel_rfl
theorem csrTurns_c20 : ((Rows.csrTurnsRow.ifacesOut == Try.f10.resultTypes.toList.any (Try.checked.prog.ifacesRec ·))) = true := by kernel_rfl
theorem csrTurns_c21 : ((Rows.csrTurnsRow.loopsOut == Try.f10.resultTypes.toList.any (Try.checked.prog.loopsFrom ·))) = true := by kernel_rfl
theorem csrTurns_c22 : ((Rows.csrTurnsRow.plainKeys == Try.checked.prog.plainKeys)) = true := by kernel_rfl
theorem csrTurns_c23 : (Rows.csrTurnsRow.shortTexts.isNone) = true := by kernel_rfl
theorem csrTurns_c24 : (Try.checked.prog.stopsHeard) = true := by kernel_rfl
theorem csrTurns_c28 : ((Rows.csrTurnsRow.kinds == (if Rows.csrTurnsRow.domain.isEmpty then [] else Try.f10.params.toList.map fun t => match Try.checked.prog.underlying t with | some (.int k) => some k | _ => none))) = true := by kernel_rfl
theorem csrTurns_c29 : ((Rows.csrTurnsRow.pinned == Rows.csrTurnsRow.pinnedBy)) = true := by kernel_rfl
theorem csrTurns_c30 : ((Rows.csrTurnsRow.veiled == (Try.f10.params.toList ++ Rows.csrTurnsSpec.plain.varTypes Try.checked.prog ++ Try.f10.resultTypes.toList).any (Try.checked.prog.veiledRec ·))) = true := by kernel_rfl
theorem csrTurns_c31 : (Rows.csrTurnsRow.veiledFits Try.checked.prog Try.f10.params.toList (Try.f10.params.toList ++ Rows.csrTurnsSpec.plain.varTypes Try.checked.prog ++ Try.f10.resultTypes.toList)) = true := by kernel_rfl
set_option maxRecDepth 100000 in
theorem csrTurns_closed : joinedFacts Try.checked.prog 10 Try.f10 Rows.csrTurnsSpec Rows.csrTurnsRow = true := by
  unfold joinedFacts
  exact and2 (and2 (and2 (and2 (and2 (and2 (and2 (and2 (and2 (and2 (and2 (and2 (and2 (and2 (and2 (and2 (and2 (and2 (and2 (and2 (and2 (and2 (and2 (and2 (and2 (and2 (and2 (and2 (and2 (and2 (and2 (csrTurns_c0) csrTurns_c1) csrTurns_c2) csrTurns_c3) csrTurns_c4) csrTurns_c5) csrTurns_c6) csrTurns_c7) csrTurns_c8) csrTurns_c9) csrTurns_c10) csrTurns_c11) csrTurns_c12) csrTurns_c13) csrTurns_c14) csrTurns_c15) csrTurns_c16) csrTurns_c17) csrTurns_c18) csrTurns_c19) csrTurns_c20) csrTurns_c21) csrTurns_c22) csrTurns_c23) csrTurns_c24) Try.enters) Try.lifts) Try.made) csrTurns_c28) csrTurns_c29) csrTurns_c30) csrTurns_c31
theorem csrTurns_holds : Rows.CsrTurnsSaid :=
  OpenClaim.holds_of_wide 10 Try.f10 rfl rfl rfl rfl rfl rfl rfl ⟨rfl, rfl, rfl, rfl, rfl⟩ rfl rfl rfl rfl rfl (by kernel_rfl) Try.func10 csrTurns_closed
    (of_decide_eq_true (by kernel_rfl)) (by unfold Func.isWrapper; first | (rw [if_pos (by decide +kernel)]; kernel_rfl) | (rw [if_neg (by decide +kernel)]; exact ⟨rfl, rfl⟩))
    (fun os started H enc _ => csrTurns_lifted os started H enc)
end Go.Proofs.Ytpojdgeginigjaa
