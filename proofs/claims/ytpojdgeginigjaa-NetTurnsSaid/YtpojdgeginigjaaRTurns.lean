/- NetTurns: the given law answers true, whatever is handed in; what was handed in reads as it did. -/
import Derived.Test.YtpojdgeginigjaaRow0
import Derived.Test.YtpojdgeginigjaaRow1
import Derived.Test.YtpojdgeginigjaaLTurns
set_option linter.unusedVariables false
namespace Go.Proofs.Ytpojdgeginigjaa
open Go.ChangeShapes Go.WideShapes Go.ChangeAt Go.RowKit

set_option maxRecDepth 100000 in
theorem netTurns_lifted (os : Os) (started : os.Started) (H : Type) (enc : TypeId × Value → H) :
    ReturnsInHanded {} Try.checked os 9 .any (Rows.netTurnsSpec.pre6 enc Try.prog Try.f9 Rows.netTurnsRow.domain false) (Rows.netTurnsSpec.post enc Try.prog Try.f9 false true false false) := by
  refine returnsInHanded_of_change (C := Try.checked) Try.own started (by kernel_rfl) Try.func9
    (ChangeSpec.witness6 (enc := enc) (C := Try.checked) false ⟨#[], #[.agg #[.int .i64 0, .int .i64 0, .int .i64 0, .slice none 0 0], .agg #[.int .i64 0, .int .i64 0, .int .i64 0, .slice none 0 0]], []⟩ 8 (by kernel_rfl) (by kernel_rfl) (by kernel_rfl) (by kernel_rfl)) ?_
  intro W base args ds gs before hval0 hW hcnd _
  have hval : ∀ (j : Nat) t v, Try.f9.params[j]? = some t → args[j]? = some v → Value.okWide Try.prog W .any base t v := hval0
  have hW' := hW
  obtain ⟨p, q, hA0, hV, rfl, hfz, hnd⟩ := hW
  have hA : DataW.TrodAll enc Try.prog W 0 (fun _ => true) true Try.f9.params.toList args.toList ds p := hA0
  rw [Try.params9] at hA hval
  have hA1 := hA
  have walk := Go.Ar.law_walk Try.mixed envOk netTurns_law (fun i t v h1 h2 => hval i t v (by simpa using h1) h2) hA
  obtain ⟨v0, vs0, d0, ds0, p0, q0, hargs, rfl, rfl, h0, r0⟩ := trodAll_cons hA
  obtain ⟨v1, vs1, d1, ds1, p1, q1, rfl, rfl, rfl, h1, r1⟩ := trodAll_cons r0
  obtain ⟨rfl, rfl, rfl⟩ := trodAll_nil r1
  obtain ⟨rfl, rfl⟩ := trodVars_none hV
  refine walk.mono fun e W' ⟨he, bel⟩ => ?_
  subst he
  exact ⟨_, rfl, _, _, _, [], _, [], hW', trodAll_mk1 (shut_bool Try.underlying4 _), Go.Ar.trodAll_below Try.laidOut bel _ _ _ _ (fun t ht => by simp at ht; rcases ht with rfl | rfl <;> exact ⟨by kernel_rfl, of_decide_eq_true (by kernel_rfl)⟩) hA1, rfl, bel.frame _, fun h => by cases h⟩

theorem netTurns_c0 : (Rows.netTurnsRow.wf (OpenSpec.ofChange Rows.netTurnsSpec)) = true := by kernel_rfl
theorem netTurns_c1 : (laidOutB Try.checked.prog) = true := by kernel_rfl
theorem netTurns_c2 : (mapsRowed Try.checked.prog) = true := by kernel_rfl
theorem netTurns_c3 : (Try.f9.params.all (Try.checked.prog.readableRec ·)) = true := by kernel_rfl
theorem netTurns_c4 : (namedTie Try.checked.prog Rows.netTurnsRow.named Rows.netTurnsSpec.vars) = true := by kernel_rfl
theorem netTurns_c5 : ((Rows.netTurnsRow.stops == [])) = true := by kernel_rfl
theorem netTurns_c6 : ((Try.checked.prog.stops == [])) = true := by kernel_rfl
theorem netTurns_c7 : ((Rows.netTurnsRow.knobs == [])) = true := by kernel_rfl
theorem netTurns_c8 : ((Try.checked.prog.stopKnobs == [])) = true := by kernel_rfl
theorem netTurns_c9 : ((Rows.netTurnsRow.inPlace == Try.checked.prog.inPlace (9 : FuncId))) = true := by kernel_rfl
theorem netTurns_c10 : ((Rows.netTurnsRow.unfollowed == Try.checked.prog.unfollowed (9 : FuncId))) = true := by kernel_rfl
theorem netTurns_c11 : ((Rows.netTurnsRow.recurses == Try.checked.prog.recurses (9 : FuncId))) = true := by kernel_rfl
theorem netTurns_c12 : ((Rows.netTurnsRow.named == Try.checked.prog.varsNamed (9 : FuncId))) = true := by kernel_rfl
theorem netTurns_c13 : ((Rows.netTurnsRow.maps == (Try.f9.params.toList ++ Rows.netTurnsSpec.plain.varTypes Try.checked.prog).any (Try.checked.prog.mapsRec ·))) = true := by kernel_rfl
theorem netTurns_c14 : ((Rows.netTurnsRow.ifaces == (Try.f9.params.toList ++ Rows.netTurnsSpec.plain.varTypes Try.checked.prog).any (Try.checked.prog.ifacesRec ·))) = true := by kernel_rfl
theorem netTurns_c15 : ((Rows.netTurnsRow.mapsOut == Try.checked.prog.mapsAmong Try.f9.resultTypes.toList)) = true := by kernel_rfl
theorem netTurns_c16 : ((Rows.netTurnsRow.loops == (Try.f9.params.toList ++ Rows.netTurnsSpec.plain.varTypes Try.checked.prog).any (Try.checked.prog.loopsFrom ·))) = true := by kernel_rfl
theorem netTurns_c17 : ((Rows.netTurnsRow.wideKeys == (Try.f9.params.toList ++ Rows.netTurnsSpec.plain.varTypes Try.checked.prog ++ Try.f9.resultTypes.toList).any (Try.checked.prog.wideKeysFrom ·))) = true := by kernel_rfl
theorem netTurns_c18 : (Rows.netTurnsSpec.vars.all (Try.checked.prog.varReadable ·)) = true := by kernel_rfl
theorem netTurns_c19 : (Try.f9.resultTypes.all (fun t => Try.checked.prog.readableRec t && decide (t < Try.checked.prog.types.size))) = true := by kernel_rfl
theorem netTurns_c20 : ((Rows.netTurnsRow.ifacesOut == Try.f9.resultTypes.toList.any (Try.checked.prog.ifacesRec ·))) = true := by kernel_rfl
theorem netTurns_c21 : ((Rows.netTurnsRow.loopsOut == Try.f9.resultTypes.toList.any (Try.checked.prog.loopsFrom ·))) = true := by kernel_rfl
theorem netTurns_c22 : ((Rows.netTurnsRow.plainKeys == Try.checked.prog.plainKeys)) = true := by kernel_rfl
theorem netTurns_c23 : (Rows.netTurnsRow.shortTexts.isNone) = true := by kernel_rfl
theorem netTurns_c24 : (Try.checked.prog.stopsHeard) = true := by kernel_rfl
theorem netTurns_c28 : ((Rows.netTurnsRow.kinds == (if Rows.netTurnsRow.domain.isEmpty then [] else Try.f9.params.toList.map fun t => match Try.checked.prog.underlying t with | some (.int k) => some k | _ => none))) = true := by kernel_rfl
theorem netTurns_c29 : ((Rows.netTurnsRow.pinned == Rows.netTurnsRow.pinnedBy)) = true := by kernel_rfl
theorem netTurns_c30 : ((Rows.netTurnsRow.veiled == (Try.f9.params.toList ++ Rows.netTurnsSpec.plain.varTypes Try.checked.prog ++ Try.f9.resultTypes.toList).any (Try.checked.prog.veiledRec ·))) = true := by kernel_rfl
theorem netTurns_c31 : (Rows.netTurnsRow.veiledFits Try.checked.prog Try.f9.params.toList (Try.f9.params.toList ++ Rows.netTurnsSpec.plain.varTypes Try.checked.prog ++ Try.f9.resultTypes.toList)) = true := by kernel_rfl
set_option maxRecDepth 100000 in
theorem netTurns_closed : joinedFacts Try.checked.prog 9 Try.f9 Rows.netTurnsSpec Rows.netTurnsRow = true := by
  unfold joinedFacts
  exact and2 (and2 (and2 (and2 (and2 (and2 (and2 (and2 (and2 (and2 (and2 (and2 (and2 (and2 (and2 (and2 (and2 (and2 (and2 (and2 (and2 (and2 (and2 (and2 (and2 (and2 (and2 (and2 (and2 (and2 (and2 (netTurns_c0) netTurns_c1) netTurns_c2) netTurns_c3) netTurns_c4) netTurns_c5) netTurns_c6) netTurns_c7) netTurns_c8) netTurns_c9) netTurns_c10) netTurns_c11) netTurns_c12) netTurns_c13) netTurns_c14) netTurns_c15) netTurns_c16) netTurns_c17) netTurns_c18) netTurns_c19) netTurns_c20) netTurns_c21) netTurns_c22) netTurns_c23) netTurns_c24) Try.enters) Try.lifts) Try.made) netTurns_c28) netTurns_c29) netTurns_c30) netTurns_c31
theorem netTurns_holds : Rows.NetTurnsSaid :=
  OpenClaim.holds_of_wide 9 Try.f9 rfl rfl rfl rfl rfl rfl rfl ⟨rfl, rfl, rfl, rfl, rfl⟩ rfl rfl rfl rfl rfl (by kernel_rfl) Try.func9 netTurns_closed
    (of_decide_eq_true (by kernel_rfl)) (by unfold Func.isWrapper; first | (rw [if_pos (by decide +kernel)]; kernel_rfl) | (rw [if_neg (by decide +kernel)]; exact ⟨rfl, rfl⟩))
    (fun os started H enc _ => netTurns_lifted os started H enc)
end Go.Proofs.Ytpojdgeginigjaa
