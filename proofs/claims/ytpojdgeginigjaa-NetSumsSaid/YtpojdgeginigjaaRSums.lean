/- NetSums: the given law answers true, whatever is handed in; what was handed in reads as it did. -/
import Derived.Test.YtpojdgeginigjaaRow0
import Derived.Test.YtpojdgeginigjaaRow1
import Derived.Test.YtpojdgeginigjaaLSums
set_option linter.unusedVariables false
namespace Go.Proofs.Ytpojdgeginigjaa
open Go.ChangeShapes Go.WideShapes Go.ChangeAt Go.RowKit

set_option maxRecDepth 100000 in
theorem netSums_lifted (os : Os) (started : os.Started) (H : Type) (enc : TypeId × Value → H) :
    ReturnsInHanded {} Try.checked os 4 .any (Rows.netSumsSpec.pre6 enc Try.prog Try.f4 Rows.netSumsRow.domain false) (Rows.netSumsSpec.post enc Try.prog Try.f4 false true false false) := by
  refine returnsInHanded_of_change (C := Try.checked) Try.own started (by kernel_rfl) Try.func4
    (ChangeSpec.witness6 (enc := enc) (C := Try.checked) false ⟨#[], #[.agg #[.int .i64 0, .int .i64 0, .int .i64 0, .slice none 0 0], .int .u8 0, .int .i64 0], []⟩ 8 (by kernel_rfl) (by kernel_rfl) (by kernel_rfl) (by kernel_rfl)) ?_
  intro W base args ds gs before hval0 hW hcnd _
  have hval : ∀ (j : Nat) t v, Try.f4.params[j]? = some t → args[j]? = some v → Value.okWide Try.prog W .any base t v := hval0
  have hW' := hW
  obtain ⟨p, q, hA0, hV, rfl, hfz, hnd⟩ := hW
  have hA : DataW.TrodAll enc Try.prog W 0 (fun _ => true) true Try.f4.params.toList args.toList ds p := hA0
  rw [Try.params4] at hA hval
  have hA1 := hA
  have walk := Go.Ar.law_walk Try.mixed envOk netSums_law (fun i t v h1 h2 => hval i t v (by simpa using h1) h2) hA
  obtain ⟨v0, vs0, d0, ds0, p0, q0, hargs, rfl, rfl, h0, r0⟩ := trodAll_cons hA
  obtain ⟨v1, vs1, d1, ds1, p1, q1, rfl, rfl, rfl, h1, r1⟩ := trodAll_cons r0
  obtain ⟨v2, vs2, d2, ds2, p2, q2, rfl, rfl, rfl, h2, r2⟩ := trodAll_cons r1
  obtain ⟨rfl, rfl, rfl⟩ := trodAll_nil r2
  obtain ⟨rfl, rfl⟩ := trodVars_none hV
  refine walk.mono fun e W' ⟨he, bel⟩ => ?_
  subst he
  exact ⟨_, rfl, _, _, _, [], _, [], hW', trodAll_mk1 (shut_bool Try.underlying4 _), Go.Ar.trodAll_below Try.laidOut bel _ _ _ _ (fun t ht => by simp at ht; rcases ht with rfl | rfl | rfl <;> exact ⟨by kernel_rfl, of_decide_eq_true (by kernel_rfl)⟩) hA1, rfl, bel.frame _, fun h => by cases h⟩

theorem netSums_c0 : (Rows.netSumsRow.wf (OpenSpec.ofChange Rows.netSumsSpec)) = true := by kernel_rfl
theorem netSums_c1 : (laidOutB Try.checked.prog) = true := by kernel_rfl
theorem netSums_c2 : (mapsRowed Try.checked.prog) = true := by kernel_rfl
theorem netSums_c3 : (Try.f4.params.all (Try.checked.prog.readableRec ·)) = true := by kernel_rfl
theorem netSums_c4 : (namedTie Try.checked.prog Rows.netSumsRow.named Rows.netSumsSpec.vars) = true := by kernel_rfl
theorem netSums_c5 : ((Rows.netSumsRow.stops == [])) = true := by kernel_rfl
theorem netSums_c6 : ((Try.checked.prog.stops == [])) = true := by kernel_rfl
theorem netSums_c7 : ((Rows.netSumsRow.knobs == [])) = true := by kernel_rfl
theorem netSums_c8 : ((Try.checked.prog.stopKnobs == [])) = true := by kernel_rfl
theorem netSums_c9 : ((Rows.netSumsRow.inPlace == Try.checked.prog.inPlace (4 : FuncId))) = true := by kernel_rfl
theorem netSums_c10 : ((Rows.netSumsRow.unfollowed == Try.checked.prog.unfollowed (4 : FuncId))) = true := by kernel_rfl
theorem netSums_c11 : ((Rows.netSumsRow.recurses == Try.checked.prog.recurses (4 : FuncId))) = true := by kernel_rfl
theorem netSums_c12 : ((Rows.netSumsRow.named == Try.checked.prog.varsNamed (4 : FuncId))) = true := by kernel_rfl
theorem netSums_c13 : ((Rows.netSumsRow.maps == (Try.f4.params.toList ++ Rows.netSumsSpec.plain.varTypes Try.checked.prog).any (Try.checked.prog.mapsRec ·))) = true := by kernel_rfl
theorem netSums_c14 : ((Rows.netSumsRow.ifaces == (Try.f4.params.toList ++ Rows.netSumsSpec.plain.varTypes Try.checked.prog).any (Try.checked.prog.ifacesRec ·))) = true := by kernel_rfl
theorem netSums_c15 : ((Rows.netSumsRow.mapsOut == Try.checked.prog.mapsAmong Try.f4.resultTypes.toList)) = true := by kernel_rfl
theorem netSums_c16 : ((Rows.netSumsRow.loops == (Try.f4.params.toList ++ Rows.netSumsSpec.plain.varTypes Try.checked.prog).any (Try.checked.prog.loopsFrom ·))) = true := by kernel_rfl
theorem netSums_c17 : ((Rows.netSumsRow.wideKeys == (Try.f4.params.toList ++ Rows.netSumsSpec.plain.varTypes Try.checked.prog ++ Try.f4.resultTypes.toList).any (Try.checked.prog.wideKeysFrom ·))) = true := by kernel_rfl
theorem netSums_c18 : (Rows.netSumsSpec.vars.all (Try.checked.prog.varReadable ·)) = true := by kernel_rfl
theorem netSums_c19 : (Try.f4.resultTypes.all (fun t => Try.checked.prog.readableRec t && decide (t < Try.checked.prog.types.size))) = true := by kernel_rfl
theorem netSums_c20 : ((Rows.netSumsRow.ifacesOut == Try.f4.resultTypes.toList.any (Try.checked.prog.ifacesRec ·))) = true := by kernel_rfl
theorem netSums_c21 : ((Rows.netSumsRow.loopsOut == Try.f4.resultTypes.toList.any (Try.checked.prog.loopsFrom ·))) = true := by kernel_rfl
theorem netSums_c22 : ((Rows.netSumsRow.plainKeys == Try.checked.prog.plainKeys)) = true := by kernel_rfl
theorem netSums_c23 : (Rows.netSumsRow.shortTexts.isNone) = true := by kernel_rfl
theorem netSums_c24 : (Try.checked.prog.stopsHeard) = true := by kernel_rfl
theorem netSums_c28 : ((Rows.netSumsRow.kinds == (if Rows.netSumsRow.domain.isEmpty then [] else Try.f4.params.toList.map fun t => match Try.checked.prog.underlying t with | some (.int k) => some k | _ => none))) = true := by kernel_rfl
theorem netSums_c29 : ((Rows.netSumsRow.pinned == Rows.netSumsRow.pinnedBy)) = true := by kernel_rfl
theorem netSums_c30 : ((Rows.netSumsRow.veiled == (Try.f4.params.toList ++ Rows.netSumsSpec.plain.varTypes Try.checked.prog ++ Try.f4.resultTypes.toList).any (Try.checked.prog.veiledRec ·))) = true := by kernel_rfl
theorem netSums_c31 : (Rows.netSumsRow.veiledFits Try.checked.prog Try.f4.params.toList (Try.f4.params.toList ++ Rows.netSumsSpec.plain.varTypes Try.checked.prog ++ Try.f4.resultTypes.toList)) = true := by kernel_rfl
set_option maxRecDepth 100000 in
theorem netSums_closed : joinedFacts Try.checked.prog 4 Try.f4 Rows.netSumsSpec Rows.netSumsRow = true := by
  unfold joinedFacts
  exact and2 (and2 (and2 (and2 (and2 (and2 (and2 (and2 (and2 (and2 (and2 (and2 (and2 (and2 (and2 (and2 (and2 (and2 (and2 (and2 (and2 (and2 (and2 (and2 (and2 (and2 (and2 (and2 (and2 (and2 (and2 (netSums_c0) netSums_c1) netSums_c2) netSums_c3) netSums_c4) netSums_c5) netSums_c6) netSums_c7) netSums_c8) netSums_c9) netSums_c10) netSums_c11) netSums_c12) netSums_c13) netSums_c14) netSums_c15) netSums_c16) netSums_c17) netSums_c18) netSums_c19) netSums_c20) netSums_c21) netSums_c22) netSums_c23) netSums_c24) Try.enters) Try.lifts) Try.made) netSums_c28) netSums_c29) netSums_c30) netSums_c31
theorem netSums_holds : Rows.NetSumsSaid :=
  OpenClaim.holds_of_wide 4 Try.f4 rfl rfl rfl rfl rfl rfl rfl ⟨rfl, rfl, rfl, rfl, rfl⟩ rfl rfl rfl rfl rfl (by kernel_rfl) Try.func4 netSums_closed
    (of_decide_eq_true (by kernel_rfl)) (by unfold Func.isWrapper; first | (rw [if_pos (by decide +kernel)]; kernel_rfl) | (rw [if_neg (by decide +kernel)]; exact ⟨rfl, rfl⟩))
    (fun os started H enc _ => netSums_lifted os started H enc)
end Go.Proofs.Ytpojdgeginigjaa
