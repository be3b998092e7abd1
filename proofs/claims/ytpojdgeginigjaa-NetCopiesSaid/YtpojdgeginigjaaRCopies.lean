/- NetCopies: the given law answers true, whatever is handed in; what was handed in reads as it did. -/
import Derived.Test.YtpojdgeginigjaaRow0
import Derived.Test.YtpojdgeginigjaaRow1
import Derived.Test.YtpojdgeginigjaaLCopies
set_option linter.unusedVariables false
namespace Go.Proofs.Ytpojdgeginigjaa
open Go.ChangeShapes Go.WideShapes Go.ChangeAt Go.RowKit

set_option maxRecDepth 100000 in
theorem netCopies_lifted (os : Os) (started : os.Started) (H : Type) (enc : TypeId × Value → H) :
    ReturnsInHanded {} Try.checked os 7 .any (Rows.netCopiesSpec.pre6 enc Try.prog Try.f7 Rows.netCopiesRow.domain false) (Rows.netCopiesSpec.post enc Try.prog Try.f7 false true false false) := by
  refine returnsInHanded_of_change (C := Try.checked) Try.own started (by kernel_rfl) Try.func7
    (ChangeSpec.witness6 (enc := enc) (C := Try.checked) false ⟨#[], #[.agg #[.int .i64 0, .int .i64 0, .int .i64 0, .slice none 0 0], .int .u8 0, .int .u8 0], []⟩ 8 (by kernel_rfl) (by kernel_rfl) (by kernel_rfl) (by kernel_rfl)) ?_
  intro W base args ds gs before hval0 hW hcnd _
  have hval : ∀ (j : Nat) t v, Try.f7.params[j]? = some t → args[j]? = some v → Value.okWide Try.prog W .any base t v := hval0
  have hW' := hW
  obtain ⟨p, q, hA0, hV, rfl, hfz, hnd⟩ := hW
  have hA : DataW.TrodAll enc Try.prog W 0 (fun _ => true) true Try.f7.params.toList args.toList ds p := hA0
  rw [Try.params7] at hA hval
  have hA1 := hA
  have walk := Go.Ar.law_walk Try.mixed envOk netCopies_law (fun i t v h1 h2 => hval i t v (by simpa using h1) h2) hA
  obtain ⟨v0, vs0, d0, ds0, p0, q0, hargs, rfl, rfl, h0, r0⟩ := trodAll_cons hA
  obtain ⟨v1, vs1, d1, ds1, p1, q1, rfl, rfl, rfl, h1, r1⟩ := trodAll_cons r0
  obtain ⟨v2, vs2, d2, ds2, p2, q2, rfl, rfl, rfl, h2, r2⟩ := trodAll_cons r1
  obtain ⟨rfl, rfl, rfl⟩ := trodAll_nil r2
  obtain ⟨rfl, rfl⟩ := trodVars_none hV
  refine walk.mono fun e W' ⟨he, bel⟩ => ?_
  subst he
  exact ⟨_, rfl, _, _, _, [], _, [], hW', trodAll_mk1 (shut_bool Try.underlying4 _), Go.Ar.trodAll_below Try.laidOut bel _ _ _ _ (fun t ht => by simp at ht; rcases ht with rfl | rfl | rfl <;> exact ⟨by kernel_rfl, of_decide_eq_true (by kernel_rfl)⟩) hA1, rfl, bel.frame _, fun h => by cases h⟩

theorem netCopies_c0 : (Rows.netCopiesRow.wf (OpenSpec.ofChange Rows.netCopiesSpec)) = true := by kernel_rfl
theorem netCopies_c1 : (laidOutB Try.checked.prog) = true := by kernel_rfl
theorem netCopies_c2 : (mapsRowed Try.checked.prog) = true := by kernel_rfl
theorem netCopies_c3 : (Try.f7.params.all (Try.checked.prog.readableRec ·)) = true := by kernel_rfl
theorem netCopies_c4 : (namedTie Try.checked.prog Rows.netCopiesRow.named Rows.netCopiesSpec.vars) = true := by kernel_rfl
theorem netCopies_c5 : ((Rows.netCopiesRow.stops == [])) = true := by kernel_rfl
theorem netCopies_c6 : ((Try.checked.prog.stops == [])) = true := by kernel_rfl
theorem netCopies_c7 : ((Rows.netCopiesRow.knobs == [])) = true := by kernel_rfl
theorem netCopies_c8 : ((Try.checked.prog.stopKnobs == [])) = true := by kernel_rfl
theorem netCopies_c9 : ((Rows.netCopiesRow.inPlace == Try.checked.prog.inPlace (7 : FuncId))) = true := by kernel_rfl
theorem netCopies_c10 : ((Rows.netCopiesRow.unfollowed == Try.checked.prog.unfollowed (7 : FuncId))) = true := by kernel_rfl
theorem netCopies_c11 : ((Rows.netCopiesRow.recurses == Try.checked.prog.recurses (7 : FuncId))) = true := by kernel_rfl
theorem netCopies_c12 : ((Rows.netCopiesRow.named == Try.checked.prog.varsNamed (7 : FuncId))) = true := by kernel_rfl
theorem netCopies_c13 : ((Rows.netCopiesRow.maps == (Try.f7.params.toList ++ Rows.netCopiesSpec.plain.varTypes Try.checked.prog).any (Try.checked.prog.mapsRec ·))) = true := by kernel_rfl
theorem netCopies_c14 : ((Rows.netCopiesRow.ifaces == (Try.f7.params.toList ++ Rows.netCopiesSpec.plain.varTypes Try.checked.prog).any (Try.checked.prog.ifacesRec ·))) = true := by kernel_rfl
theorem netCopies_c15 : ((Rows.netCopiesRow.mapsOut == Try.checked.prog.mapsAmong Try.f7.resultTypes.toList)) = true := by kernel_rfl
theorem netCopies_c16 : ((Rows.netCopiesRow.loops == (Try.f7.params.toList ++ Rows.netCopiesSpec.plain.varTypes Try.checked.prog).any (Try.checked.prog.loopsFrom ·))) = true := by kernel_rfl
theorem netCopies_c17 : ((Rows.netCopiesRow.wideKeys == (Try.f7.params.toList ++ Rows.netCopiesSpec.plain.varTypes Try.checked.prog ++ Try.f7.resultTypes.toList).any (Try.checked.prog.wideKeysFrom ·))) = true := by kernel_rfl
theorem netCopies_c18 : (Rows.netCopiesSpec.vars.all (Try.checked.prog.varReadable ·)) = true := by kernel_rfl
theorem netCopies_c19 : (Try.f7.resultTypes.all (fun t => Try.checked.prog.readableRec t && decide (t < Try.checked.prog.types.size))) = true := by kernel_rfl
theorem netCopies_c20 : ((Rows.netCopiesRow.ifacesOut == Try.f7.resultTypes.toList.any (Try.checked.prog.ifacesRec ·))) = true := by kernel_rfl
theorem netCopies_c21 : ((Rows.netCopiesRow.loopsOut == Try.f7.resultTypes.toList.any (Try.checked.prog.loopsFrom ·))) = true := by kernel_rfl
theorem netCopies_c22 : ((Rows.netCopiesRow.plainKeys == Try.checked.prog.plainKeys)) = true := by kernel_rfl
theorem netCopies_c23 : (Rows.netCopiesRow.shortTexts.isNone) = true := by kernel_rfl
theorem netCopies_c24 : (Try.checked.prog.stopsHeard) = true := by kernel_rfl
theorem netCopies_c28 : ((Rows.netCopiesRow.kinds == (if Rows.netCopiesRow.domain.isEmpty then [] else Try.f7.params.toList.map fun t => match Try.checked.prog.underlying t with | some (.int k) => some k | _ => none))) = true := by kernel_rfl
theorem netCopies_c29 : ((Rows.netCopiesRow.pinned == Rows.netCopiesRow.pinnedBy)) = true := by kernel_rfl
theorem netCopies_c30 : ((Rows.netCopiesRow.veiled == (Try.f7.params.toList ++ Rows.netCopiesSpec.plain.varTypes Try.checked.prog ++ Try.f7.resultTypes.toList).any (Try.checked.prog.veiledRec ·))) = true := by kernel_rfl
theorem netCopies_c31 : (Rows.netCopiesRow.veiledFits Try.checked.prog Try.f7.params.toList (Try.f7.params.toList ++ Rows.netCopiesSpec.plain.varTypes Try.checked.prog ++ Try.f7.resultTypes.toList)) = true := by kernel_rfl
set_option maxRecDepth 100000 in
theorem netCopies_closed : joinedFacts Try.checked.prog 7 Try.f7 Rows.netCopiesSpec Rows.netCopiesRow = true := by
  unfold joinedFacts
  exact and2 (and2 (and2 (and2 (and2 (and2 (and2 (and2 (and2 (and2 (and2 (and2 (and2 (and2 (and2 (and2 (and2 (and2 (and2 (and2 (and2 (and2 (and2 (and2 (and2 (and2 (and2 (and2 (and2 (and2 (and2 (netCopies_c0) netCopies_c1) netCopies_c2) netCopies_c3) netCopies_c4) netCopies_c5) netCopies_c6) netCopies_c7) netCopies_c8) netCopies_c9) netCopies_c10) netCopies_c11) netCopies_c12) netCopies_c13) netCopies_c14) netCopies_c15) netCopies_c16) netCopies_c17) netCopies_c18) netCopies_c19) netCopies_c20) netCopies_c21) netCopies_c22) netCopies_c23) netCopies_c24) Try.enters) Try.lifts) Try.made) netCopies_c28) netCopies_c29) netCopies_c30) netCopies_c31
theorem netCopies_holds : Rows.NetCopiesSaid :=
  OpenClaim.holds_of_wide 7 Try.f7 rfl rfl rfl rfl rfl rfl rfl ⟨rfl, rfl, rfl, rfl, rfl⟩ rfl rfl rfl rfl rfl (by kernel_rfl) Try.func7 netCopies_closed
    (of_decide_eq_true (by kernel_rfl)) (by unfold Func.isWrapper; first | (rw [if_pos (by decide +kernel)]; kernel_rfl) | (rw [if_neg (by decide +kernel)]; exact ⟨rfl, rfl⟩))
    (fun os started H enc _ => netCopies_lifted os started H enc)
end Go.Proofs.Ytpojdgeginigjaa
