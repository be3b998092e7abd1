/- NetFirst: the given law answers true, whatever is handed in; what was handed in reads as it did. -/
import Derived.Test.YtpojdgeginigjaaRow0
import Derived.Test.YtpojdgeginigjaaRow1
import Derived.Test.YtpojdgeginigjaaLFirst
set_option linter.unusedVariables false
namespace Go.Proofs.Ytpojdgeginigjaa
open Go.ChangeShapes Go.WideShapes Go.ChangeAt Go.RowKit

set_option maxRecDepth 100000 in
theorem netFirst_lifted (os : Os) (started : os.Started) (H : Type) (enc : TypeId × Value → H) :
    ReturnsInHanded {} Try.checked os 3 .any (Rows.netFirstSpec.pre6 enc Try.prog Try.f3 Rows.netFirstRow.domain false) (Rows.netFirstSpec.post enc Try.prog Try.f3 false true false false) := by
  refine returnsInHanded_of_change (C := Try.checked) Try.own started (by kernel_rfl) Try.func3
    (ChangeSpec.witness6 (enc := enc) (C := Try.checked) false ⟨#[], #[.agg #[.int .i64 0, .int .i64 0, .int .i64 0, .slice none 0 0]], []⟩ 8 (by kernel_rfl) (by kernel_rfl) (by kernel_rfl) (by kernel_rfl)) ?_
  intro W base args ds gs before hval0 hW hcnd _
  have hval : ∀ (j : Nat) t v, Try.f3.params[j]? = some t → args[j]? = some v → Value.okWide Try.prog W .any base t v := hval0
  have hW' := hW
  obtain ⟨p, q, hA0, hV, rfl, hfz, hnd⟩ := hW
  have hA : DataW.TrodAll enc Try.prog W 0 (fun _ => true) true Try.f3.params.toList args.toList ds p := hA0
  rw [Try.params3] at hA hval
  have hA1 := hA
  have walk := Go.Ar.law_walk Try.mixed envOk netFirst_law (fun i t v h1 h2 => hval i t v (by simpa using h1) h2) hA
  obtain ⟨v0, vs0, d0, ds0, p0, q0, hargs, rfl, rfl, h0, r0⟩ := trodAll_cons hA
  obtain ⟨rfl, rfl, rfl⟩ := trodAll_nil r0
  obtain ⟨rfl, rfl⟩ := trodVars_none hV
  refine walk.mono fun e W' ⟨he, bel⟩ => ?_
  subst he
  exact ⟨_, rfl, _, _, _, [], _, [], hW', trodAll_mk1 (shut_bool Try.underlying4 _), Go.Ar.trodAll_below Try.laidOut bel _ _ _ _ (fun t ht => by simp at ht; rcases ht with rfl <;> exact ⟨by kernel_rfl, of_decide_eq_true (by kernel_rfl)⟩) hA1, rfl, bel.frame _, fun h => by cases h⟩

theorem netFirst_c0 : (Rows.netFirstRow.wf (OpenSpec.ofChange Rows.netFirstSpec)) = true := by kernel_rfl
theorem netFirst_c1 : (laidOutB Try.checked.prog) = true := by kernel_rfl
theorem netFirst_c2 : (mapsRowed Try.checked.prog) = true := by kernel_rfl
theorem netFirst_c3 : (Try.f3.params.all (Try.checked.prog.readableRec ·)) = true := by kernel_rfl
theorem netFirst_c4 : (namedTie Try.checked.prog Rows.netFirstRow.named Rows.netFirstSpec.vars) = true := by kernel_rfl
theorem netFirst_c5 : ((Rows.netFirstRow.stops == [])) = true := by kernel_rfl
theorem netFirst_c6 : ((Try.checked.prog.stops == [])) = true := by kernel_rfl
theorem netFirst_c7 : ((Rows.netFirstRow.knobs == [])) = true := by kernel_rfl
theorem netFirst_c8 : ((Try.checked.prog.stopKnobs == [])) = true := by kernel_rfl
theorem netFirst_c9 : ((Rows.netFirstRow.inPlace == Try.checked.prog.inPlace (3 : FuncId))) = true := by kernel_rfl
theorem netFirst_c10 : ((Rows.netFirstRow.unfollowed == Try.checked.prog.unfollowed (3 : FuncId))) = true := by kernel_rfl
theorem netFirst_c11 : ((Rows.netFirstRow.recurses == Try.checked.prog.recurses (3 : FuncId))) = true := by kernel_rfl
theorem netFirst_c12 : ((Rows.netFirstRow.named == Try.checked.prog.varsNamed (3 : FuncId))) = true := by kernel_rfl
theorem netFirst_c13 : ((Rows.netFirstRow.maps == (Try.f3.params.toList ++ Rows.netFirstSpec.plain.varTypes Try.checked.prog).any (Try.checked.prog.mapsRec ·))) = true := by kernel_rfl
theorem netFirst_c14 : ((Rows.netFirstRow.ifaces == (Try.f3.params.toList ++ Rows.netFirstSpec.plain.varTypes Try.checked.prog).any (Try.checked.prog.ifacesRec ·))) = true := by kernel_rfl
theorem netFirst_c15 : ((Rows.netFirstRow.mapsOut == Try.checked.prog.mapsAmong Try.f3.resultTypes.toList)) = true := by kernel_rfl
theorem netFirst_c16 : ((Rows.netFirstRow.loops == (Try.f3.params.toList ++ Rows.netFirstSpec.plain.varTypes Try.checked.prog).any (Try.checked.prog.loopsFrom ·))) = true := by kernel_rfl
theorem netFirst_c17 : ((Rows.netFirstRow.wideKeys == (Try.f3.params.toList ++ Rows.netFirstSpec.plain.varTypes Try.checked.prog ++ Try.f3.resultTypes.toList).any (Try.checked.prog.wideKeysFrom ·))) = true := by kernel_rfl
theorem netFirst_c18 : (Rows.netFirstSpec.vars.all (Try.checked.prog.varReadable ·)) = true := by kernel_rfl
theorem netFirst_c19 : (Try.f3.resultTypes.all (fun t => Try.checked.prog.readableRec t && decide (t < Try.checked.prog.types.size))) = true := by kernel_rfl
theorem netFirst_c20 : ((Rows.netFirstRow.ifacesOut == Try.f3.resultTypes.toList.any (Try.checked.prog.ifacesRec ·))) = true := by kernel_rfl
theorem netFirst_c21 : ((Rows.netFirstRow.loopsOut == Try.f3.resultTypes.toList.any (Try.checked.prog.loopsFrom ·))) = true := by kernel_rfl
theorem netFirst_c22 : ((Rows.netFirstRow.plainKeys == Try.checked.prog.plainKeys)) = true := by kernel_rfl
theorem netFirst_c23 : (Rows.netFirstRow.shortTexts.isNone) = true := by kernel_rfl
theorem netFirst_c24 : (Try.checked.prog.stopsHeard) = true := by kernel_rfl
theorem netFirst_c28 : ((Rows.netFirstRow.kinds == (if Rows.netFirstRow.domain.isEmpty then [] else Try.f3.params.toList.map fun t => match Try.checked.prog.underlying t with | some (.int k) => some k | _ => none))) = true := by kernel_rfl
theorem netFirst_c29 : ((Rows.netFirstRow.pinned == Rows.netFirstRow.pinnedBy)) = true := by kernel_rfl
theorem netFirst_c30 : ((Rows.netFirstRow.veiled == (Try.f3.params.toList ++ Rows.netFirstSpec.plain.varTypes Try.checked.prog ++ Try.f3.resultTypes.toList).any (Try.checked.prog.veiledRec ·))) = true := by kernel_rfl
theorem netFirst_c31 : (Rows.netFirstRow.veiledFits Try.checked.prog Try.f3.params.toList (Try.f3.params.toList ++ Rows.netFirstSpec.plain.varTypes Try.checked.prog ++ Try.f3.resultTypes.toList)) = true := by kernel_rfl
set_option maxRecDepth 100000 in
theorem netFirst_closed : joinedFacts Try.checked.prog 3 Try.f3 Rows.netFirstSpec Rows.netFirstRow = true := by
  unfold joinedFacts
  exact and2 (and2 (and2 (and2 (and2 (and2 (and2 (and2 (and2 (and2 (and2 (and2 (and2 (and2 (and2 (and2 (and2 (and2 (and2 (and2 (and2 (and2 (and2 (and2 (and2 (and2 (and2 (and2 (and2 (and2 (and2 (netFirst_c0) netFirst_c1) netFirst_c2) netFirst_c3) netFirst_c4) netFirst_c5) netFirst_c6) netFirst_c7) netFirst_c8) netFirst_c9) netFirst_c10) netFirst_c11) netFirst_c12) netFirst_c13) netFirst_c14) netFirst_c15) netFirst_c16) netFirst_c17) netFirst_c18) netFirst_c19) netFirst_c20) netFirst_c21) netFirst_c22) netFirst_c23) netFirst_c24) Try.enters) Try.lifts) Try.made) netFirst_c28) netFirst_c29) netFirst_c30) netFirst_c31
theorem netFirst_holds : Rows.NetFirstSaid :=
  OpenClaim.holds_of_wide 3 Try.f3 rfl rfl rfl rfl rfl rfl rfl ⟨rfl, rfl, rfl, rfl, rfl⟩ rfl rfl rfl rfl rfl (by kernel_rfl) Try.func3 netFirst_closed
    (of_decide_eq_true (by kernel_rfl)) (by unfold Func.isWrapper; first | (rw [if_pos (by decide +kernel)]; kernel_rfl) | (rw [if_neg (by decide +kernel)]; exact ⟨rfl, rfl⟩))
    (fun os started H enc _ => netFirst_lifted os started H enc)
end Go.Proofs.Ytpojdgeginigjaa
