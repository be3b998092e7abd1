/- NetJoins: the given law answers true, whatever is handed in; what was handed in reads as it did. -/
import Derived.Test.YtpojdgeginigjaaRow0
import Derived.Test.YtpojdgeginigjaaRow1
import Derived.Test.YtpojdgeginigjaaLJoins
set_option linter.unusedVariables false
namespace Go.Proofs.Ytpojdgeginigjaa
open Go.ChangeShapes Go.WideShapes Go.ChangeAt Go.RowKit

set_option maxRecDepth 100000 in
theorem netJoins_lifted (os : Os) (started : os.Started) (H : Type) (enc : TypeId × Value → H) :
    ReturnsInHanded {} Try.checked os 6 .any (Rows.netJoinsSpec.pre6 enc Try.prog Try.f6 Rows.netJoinsRow.domain false) (Rows.netJoinsSpec.post enc Try.prog Try.f6 false true false false) := by
  refine returnsInHanded_of_change (C := Try.checked) Try.own started (by kernel_rfl) Try.func6
    (ChangeSpec.witness6 (enc := enc) (C := Try.checked) false ⟨#[], #[.agg #[.int .i64 0, .int .i64 0, .int .i64 0, .slice none 0 0]], []⟩ 8 (by kernel_rfl) (by kernel_rfl) (by kernel_rfl) (by kernel_rfl)) ?_
  intro W base args ds gs before hval0 hW hcnd _
  have hval : ∀ (j : Nat) t v, Try.f6.params[j]? = some t → args[j]? = some v → Value.okWide Try.prog W .any base t v := hval0
  have hW' := hW
  obtain ⟨p, q, hA0, hV, rfl, hfz, hnd⟩ := hW
  have hA : DataW.TrodAll enc Try.prog W 0 (fun _ => true) true Try.f6.params.toList args.toList ds p := hA0
  rw [Try.params6] at hA hval
  have hA1 := hA
  have walk := Go.Ar.law_walk Try.mixed envOk netJoins_law (fun i t v h1 h2 => hval i t v (by simpa using h1) h2) hA
  obtain ⟨v0, vs0, d0, ds0, p0, q0, hargs, rfl, rfl, h0, r0⟩ := trodAll_cons hA
  obtain ⟨rfl, rfl, rfl⟩ := trodAll_nil r0
  obtain ⟨rfl, rfl⟩ := trodVars_none hV
  refine walk.mono fun e W' ⟨he, bel⟩ => ?_
  subst he
  exact ⟨_, rfl, _, _, _, [], _, [], hW', trodAll_mk1 (shut_bool Try.underlying4 _), Go.Ar.trodAll_below Try.laidOut bel _ _ _ _ (fun t ht => by simp at ht; rcases ht with rfl <;> exact ⟨by kernel_rfl, of_decide_eq_true (by kernel_rfl)⟩) hA1, rfl, bel.frame _, fun h => by cases h⟩

theorem netJoins_c0 : (Rows.netJoinsRow.wf (OpenSpec.ofChange Rows.netJoinsSpec)) = true := by kernel_rfl
theorem netJoins_c1 : (laidOutB Try.checked.prog) = true := by kernel_rfl
theorem netJoins_c2 : (mapsRowed Try.checked.prog) = true := by kernel_rfl
theorem netJoins_c3 : (Try.f6.params.all (Try.checked.prog.readableRec ·)) = true := by kernel_rfl
theorem netJoins_c4 : (namedTie Try.checked.prog Rows.netJoinsRow.named Rows.netJoinsSpec.vars) = true := by kernel_rfl
theorem netJoins_c5 : ((Rows.netJoinsRow.stops == [])) = true := by kernel_rfl
theorem netJoins_c6 : ((Try.checked.prog.stops == [])) = true := by kernel_rfl
theorem netJoins_c7 : ((Rows.netJoinsRow.knobs == [])) = true := by kernel_rfl
theorem netJoins_c8 : ((Try.checked.prog.stopKnobs == [])) = true := by kernel_rfl
theorem netJoins_c9 : ((Rows.netJoinsRow.inPlace == Try.checked.prog.inPlace (6 : FuncId))) = true := by kernel_rfl
theorem netJoins_c10 : ((Rows.netJoinsRow.unfollowed == Try.checked.prog.unfollowed (6 : FuncId))) = true := by kernel_rfl
theorem netJoins_c11 : ((Rows.netJoinsRow.recurses == Try.checked.prog.recurses (6 : FuncId))) = true := by kernel_rfl
theorem netJoins_c12 : ((Rows.netJoinsRow.named == Try.checked.prog.varsNamed (6 : FuncId))) = true := by kernel_rfl
theorem netJoins_c13 : ((Rows.netJoinsRow.maps == (Try.f6.params.toList ++ Rows.netJoinsSpec.plain.varTypes Try.checked.prog).any (Try.checked.prog.mapsRec ·))) = true := by kernel_rfl
theorem netJoins_c14 : ((Rows.netJoinsRow.ifaces == (Try.f6.params.toList ++ Rows.netJoinsSpec.plain.varTypes Try.checked.prog).any (Try.checked.prog.ifacesRec ·))) = true := by kernel_rfl
theorem netJoins_c15 : ((Rows.netJoinsRow.mapsOut == Try.checked.prog.mapsAmong Try.f6.resultTypes.toList)) = true := by kernel_rfl
theorem netJoins_c16 : ((Rows.netJoinsRow.loops == (Try.f6.params.toList ++ Rows.netJoinsSpec.plain.varTypes Try.checked.prog).any (Try.checked.prog.loopsFrom ·))) = true := by kernel_rfl
theorem netJoins_c17 : ((Rows.netJoinsRow.wideKeys == (Try.f6.params.toList ++ Rows.netJoinsSpec.plain.varTypes Try.checked.prog ++ Try.f6.resultTypes.toList).any (Try.checked.prog.wideKeysFrom ·))) = true := by kernel_rfl
theorem netJoins_c18 : (Rows.netJoinsSpec.vars.all (Try.checked.prog.varReadable ·)) = true := by kernel_rfl
theorem netJoins_c19 : (Try.f6.resultTypes.all (fun t => Try.checked.prog.readableRec t && decide (t < Try.checked.prog.types.size))) = true := by kernel_rfl
theorem netJoins_c20 : ((Rows.netJoinsRow.ifacesOut == Try.f6.resultTypes.toList.any (Try.checked.prog.ifacesRec ·))) = true := by kernel_rfl
theorem netJoins_c21 : ((Rows.netJoinsRow.loopsOut == Try.f6.resultTypes.toList.any (Try.checked.prog.loopsFrom ·))) = true := by kernel_rfl
theorem netJoins_c22 : ((Rows.netJoinsRow.plainKeys == Try.checked.prog.plainKeys)) = true := by kernel_rfl
theorem netJoins_c23 : (Rows.netJoinsRow.shortTexts.isNone) = true := by kernel_rfl
theorem netJoins_c24 : (Try.checked.prog.stopsHeard) = true := by kernel_rfl
theorem netJoins_c28 : ((Rows.netJoinsRow.kinds == (if Rows.netJoinsRow.domain.isEmpty then [] else Try.f6.params.toList.map fun t => match Try.checked.prog.underlying t with | some (.int k) => some k | _ => none))) = true := by kernel_rfl
theorem netJoins_c29 : ((Rows.netJoinsRow.pinned == Rows.netJoinsRow.pinnedBy)) = true := by kernel_rfl
theorem netJoins_c30 : ((Rows.netJoinsRow.veiled == (Try.f6.params.toList ++ Rows.netJoinsSpec.plain.varTypes Try.checked.prog ++ Try.f6.resultTypes.toList).any (Try.checked.prog.veiledRec ·))) = true := by kernel_rfl
theorem netJoins_c31 : (Rows.netJoinsRow.veiledFits Try.checked.prog Try.f6.params.toList (Try.f6.params.toList ++ Rows.netJoinsSpec.plain.varTypes Try.checked.prog ++ Try.f6.resultTypes.toList)) = true := by kernel_rfl
set_option maxRecDepth 100000 in
theorem netJoins_closed : joinedFacts Try.checked.prog 6 Try.f6 Rows.netJoinsSpec Rows.netJoinsRow = true := by
  unfold joinedFacts
  exact and2 (and2 (and2 (and2 (and2 (and2 (and2 (and2 (and2 (and2 (and2 (and2 (and2 (and2 (and2 (and2 (and2 (and2 (and2 (and2 (and2 (and2 (and2 (and2 (and2 (and2 (and2 (and2 (and2 (and2 (and2 (netJoins_c0) netJoins_c1) netJoins_c2) netJoins_c3) netJoins_c4) netJoins_c5) netJoins_c6) netJoins_c7) netJoins_c8) netJoins_c9) netJoins_c10) netJoins_c11) netJoins_c12) netJoins_c13) netJoins_c14) netJoins_c15) netJoins_c16) netJoins_c17) netJoins_c18) netJoins_c19) netJoins_c20) netJoins_c21) netJoins_c22) netJoins_c23) netJoins_c24) Try.enters) Try.lifts) Try.made) netJoins_c28) netJoins_c29) netJoins_c30) netJoins_c31
theorem netJoins_holds : Rows.NetJoinsSaid :=
  OpenClaim.holds_of_wide 6 Try.f6 rfl rfl rfl rfl rfl rfl rfl ⟨rfl, rfl, rfl, rfl, rfl⟩ rfl rfl rfl rfl rfl (by kernel_rfl) Try.func6 netJoins_closed
    (of_decide_eq_true (by kernel_rfl)) (by unfold Func.isWrapper; first | (rw [if_pos (by decide +kernel)]; kernel_rfl) | (rw [if_neg (by decide +kernel)]; exact ⟨rfl, rfl⟩))
    (fun os started H enc _ => netJoins_lifted os started H enc)
end Go.Proofs.Ytpojdgeginigjaa
