/- CsrBack: the given law answers true, whatever is handed in; what was handed in reads as it did. -/
import Derived.Test.YtpojdgeginigjaaMRow0
import Derived.Test.YtpojdgeginigjaaMRow1
import Derived.Test.YtpojdgeginigjaaMLCsrBack
set_option linter.unusedVariables false
namespace Go.Proofs.Ytpojdgeginigjaa
open Go.ChangeShapes Go.WideShapes Go.ChangeAt Go.RowKit

set_option maxRecDepth 100000 in
theorem csrBack_lifted (os : Os) (started : os.Started) (H : Type) (enc : TypeId × Value → H) :
    ReturnsInHanded {} Try.checked os 11 .any (Rows.csrBackSpec.pre6 enc Try.prog Try.f11 Rows.csrBackRow.domain false) (Rows.csrBackSpec.post enc Try.prog Try.f11 false true false false) := by
  refine returnsInHanded_of_change (C := Try.checked) Try.own started (by kernel_rfl) Try.func11
    (ChangeSpec.witness6 (enc := enc) (C := Try.checked) false ⟨#[], #[.agg #[.int .i64 0, .int .i64 0, .int .i64 0, .slice none 0 0], .slice none 0 0, .int .u8 0, .int .i64 0], []⟩ 8 (by kernel_rfl) (by kernel_rfl) (by kernel_rfl) (by kernel_rfl)) ?_
  intro W base args ds gs before hval0 hW hcnd _
  have hval : ∀ (j : Nat) t v, Try.f11.params[j]? = some t → args[j]? = some v → Value.okWide Try.prog W .any base t v := hval0
  have hW' := hW
  obtain ⟨p, q, hA0, hV, rfl, hfz, hnd⟩ := hW
  have hA : DataW.TrodAll enc Try.prog W 0 (fun _ => true) true Try.f11.params.toList args.toList ds p := hA0
  rw [Try.params11] at hA hval
  have hA1 := hA
  have walk := Go.Ar.law_walk Try.mixed envOk csrBack_law (fun i t v h1 h2 => hval i t v (by simpa using h1) h2) hA
  obtain ⟨v0, vs0, d0, ds0, p0, q0, hargs, rfl, rfl, h0, r0⟩ := trodAll_cons hA
  obtain ⟨v1, vs1, d1, ds1, p1, q1, rfl, rfl, rfl, h1, r1⟩ := trodAll_cons r0
  obtain ⟨v2, vs2, d2, ds2, p2, q2, rfl, rfl, rfl, h2, r2⟩ := trodAll_cons r1
  obtain ⟨v3, vs3, d3, ds3, p3, q3, rfl, rfl, rfl, h3, r3⟩ := trodAll_cons r2
  obtain ⟨rfl, rfl, rfl⟩ := trodAll_nil r3
  obtain ⟨rfl, rfl⟩ := trodVars_none hV
  refine walk.mono fun e W' ⟨he, bel⟩ => ?_
  subst he
  exact ⟨_, rfl, _, _, _, [], _, [], hW', trodAll_mk1 (shut_bool Try.underlying4 _), Go.Ar.trodAll_below Try.laidOut bel _ _ _ _ (fun t ht => by simp at ht; rcases ht with rfl | rfl | rfl | rfl <;> exact ⟨by kernel_rfl, of_decide_eq_true (by kernel_rfl)⟩) hA1, rfl, bel.frame _, fun h => by cases h⟩

theorem csrBack_c0 : (Rows.csrBackRow.wf (OpenSpec.ofChange Rows.csrBackSpec)) = true := by kernel_rfl
theorem csrBack_c1 : (laidOutB Try.checked.prog) = true := by kernel_rfl
theorem csrBack_c2 : (mapsRowed Try.checked.prog) = true := by kernel_rfl
theorem csrBack_c3 : (Try.f11.params.all (Try.checked.prog.readableRec ·)) = true := by kernel_rfl
theorem csrBack_c4 : (namedTie Try.checked.prog Rows.csrBackRow.named Rows.csrBackSpec.vars) = true := by kernel_rfl
theorem csrBack_c5 : ((Rows.csrBackRow.stops == [])) = true := by kernel_rfl
theorem csrBack_c6 : ((Try.checked.prog.stops == [])) = true := by kernel_rfl
theorem csrBack_c7 : ((Rows.csrBackRow.knobs == [])) = true := by kernel_rfl
theorem csrBack_c8 : ((Try.checked.prog.stopKnobs == [])) = true := by kernel_rfl
theorem csrBack_c9 : ((Rows.csrBackRow.inPlace == Try.checked.prog.inPlace (11 : FuncId))) = true := by kernel_rfl
theorem csrBack_c10 : ((Rows.csrBackRow.unfollowed == Try.checked.prog.unfollowed (11 : FuncId))) = true := by kernel_rfl
theorem csrBack_c11 : ((Rows.csrBackRow.recurses == Try.checked.prog.recurses (11 : FuncId))) = true := by kernel_rfl
theorem csrBack_c12 : ((Rows.csrBackRow.named == Try.checked.prog.varsNamed (11 : FuncId))) = true := by kernel_rfl
theorem csrBack_c13 : ((Rows.csrBackRow.maps == (Try.f11.params.toList ++ Rows.csrBackSpec.plain.varTypes Try.checked.prog).any (Try.checked.prog.mapsRec ·))) = true := by kernel_rfl
theorem csrBack_c14 : ((Rows.csrBackRow.ifaces == (Try.f11.params.toList ++ Rows.csrBackSpec.plain.varTypes Try.checked.prog).any (Try.checked.prog.ifacesRec ·))) = true := by kernel_rfl
theorem csrBack_c15 : ((Rows.csrBackRow.mapsOut == Try.checked.prog.mapsAmong Try.f11.resultTypes.toList)) = true := by kernel_rfl
theorem csrBack_c16 : ((Rows.csrBackRow.loops == (Try.f11.params.toList ++ Rows.csrBackSpec.plain.varTypes Try.checked.prog).any (Try.checked.prog.loopsFrom ·))) = true := by kernel_rfl
theorem csrBack_c17 : ((Rows.csrBackRow.wideKeys == (Try.f11.params.toList ++ Rows.csrBackSpec.plain.varTypes Try.checked.prog ++ Try.f11.resultTypes.toList).any (Try.checked.prog.wideKeysFrom ·))) = true := by kernel_rfl
theorem csrBack_c18 : (Rows.csrBackSpec.vars.all (Try.checked.prog.varReadable ·)) = true := by kernel_rfl
theorem csrBack_c19 : (Try.f11.resultTypes.all (fun t => Try.checked.prog.readableRec t && decide (t < Try.checked.prog.types.size))) = true := by kernel_rfl
theorem csrBack_c20 : ((Rows.csrBackRow.ifacesOut == Try.f11.resultTypes.toList.any (Try.checked.prog.ifacesRec ·))) = true := by kernel_rfl
theorem csrBack_c21 : ((Rows.csrBackRow.loopsOut == Try.f11.resultTypes.toList.any (Try.checked.prog.loopsFrom ·))) = true := by kernel_rfl
theorem csrBack_c22 : ((Rows.csrBackRow.plainKeys == Try.checked.prog.plainKeys)) = true := by kernel_rfl
theorem csrBack_c23 : (Rows.csrBackRow.shortTexts.isNone) = true := by kernel_rfl
theorem csrBack_c24 : (Try.checked.prog.stopsHeard) = true := by kernel_rfl
theorem csrBack_c28 : ((Rows.csrBackRow.kinds == (if Rows.csrBackRow.domain.isEmpty then [] else Try.f11.params.toList.map fun t => match Try.checked.prog.underlying t with | some (.int k) => some k | _ => none))) = true := by kernel_rfl
theorem csrBack_c29 : ((Rows.csrBackRow.pinned == Rows.csrBackRow.pinnedBy)) = true := by kernel_rfl
theorem csrBack_c30 : ((Rows.csrBackRow.veiled == (Try.f11.params.toList ++ Rows.csrBackSpec.plain.varTypes Try.checked.prog ++ Try.f11.resultTypes.toList).any (Try.checked.prog.veiledRec ·))) = true := by kernel_rfl
theorem csrBack_c31 : (Rows.csrBackRow.veiledFits Try.checked.prog Try.f11.params.toList (Try.f11.params.toList ++ Rows.csrBackSpec.plain.varTypes Try.checked.prog ++ Try.f11.resultTypes.toList)) = true := by kernel_rfl
set_option maxRecDepth 100000 in
theorem csrBack_closed : joinedFacts Try.checked.prog 11 Try.f11 Rows.csrBackSpec Rows.csrBackRow = true := by
  unfold joinedFacts
  exact and2 (and2 (and2 (and2 (and2 (and2 (and2 (and2 (and2 (and2 (and2 (and2 (and2 (and2 (and2 (and2 (and2 (and2 (and2 (and2 (and2 (and2 (and2 (and2 (and2 (and2 (and2 (and2 (and2 (and2 (and2 (csrBack_c0) csrBack_c1) csrBack_c2) csrBack_c3) csrBack_c4) csrBack_c5) csrBack_c6) csrBack_c7) csrBack_c8) csrBack_c9) csrBack_c10) csrBack_c11) csrBack_c12) csrBack_c13) csrBack_c14) csrBack_c15) csrBack_c16) csrBack_c17) csrBack_c18) csrBack_c19) csrBack_c20) csrBack_c21) csrBack_c22) csrBack_c23) csrBack_c24) Try.enters) Try.lifts) Try.made) csrBack_c28) csrBack_c29) csrBack_c30) csrBack_c31
theorem csrBack_holds : Rows.CsrBackSaid :=
  OpenClaim.holds_of_wide 11 Try.f11 rfl rfl rfl rfl rfl rfl rfl ⟨rfl, rfl, rfl, rfl, rfl⟩ rfl rfl rfl rfl rfl (by kernel_rfl) Try.func11 csrBack_closed
    (of_decide_eq_true (by kernel_rfl)) (by unfold Func.isWrapper; first | (rw [if_pos (by decide +kernel)]; kernel_rfl) | (rw [if_neg (by decide +kernel)]; exact ⟨rfl, rfl⟩))
    (fun os started H enc _ => csrBack_lifted os started H enc)
end Go.Proofs.Ytpojdgeginigjaa
