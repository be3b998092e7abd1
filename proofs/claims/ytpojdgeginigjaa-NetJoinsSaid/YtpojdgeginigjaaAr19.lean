/- Calls: every call that the abstract run answers, the machine answers. -/
import Derived.Test.YtpojdgeginigjaaAr18
set_option linter.unusedSimpArgs false
set_option linter.unusedVariables false
namespace Go.Ar
open Go.RowKit

variable {P : Program} {B0 : Nat} {w0 : World} {ρ : Rho} {H : Heap} {D : List Nat} {w : World} {nt : Nat} {τ τ' : Nat → V} {a : Act} {call : CallF} {N nh : Nat}

/-! ### The results -/
def resOf (tmps : Array Value) : ResultVar → Sem Value
  | .tmp t => pure (tmps.getD t undef)
  | .cell a t => do loadVar t (← asAddr (tmps.getD a undef))
theorem res1_ok (hS : Sim P B0 w0 ρ H D w) {tmps : Array Value} (hτ : RT ρ nt τ tmps) {rv : ResultVar} {r : RV} (hc : compRV P rv = some r) {v : V} (h : res1 τ H r = some v) :
    ∃ v', (resOf tmps rv).run P w = .ok v' w ∧ R ρ v v' := by
  cases rv with
  | tmp t => cases hc; cases h; exact ⟨_, rfl, hτ.2 t⟩
  | cell c t =>
    simp only [compRV] at hc
    split at hc
    case h_2 => cases hc
    rename_i n g hn hg
    cases hc
    simp only [res1] at h
    split at h
    case h_2 => cases h
    rename_i k o hk
    have hx := hτ.2 c
    rw [hk] at hx
    obtain ⟨v', h1, h2⟩ := op_load hS hn hg hx h
    refine ⟨v', ?_, h2⟩
    simp only [resOf]
    generalize tmps.getD c undef = x at h1 hx ⊢
    cases hx with
    | ptr hL =>
      simp only [Instr.loadAt, Instr.sureAddr, asAddr, pure_bind, bind_assoc] at h1 ⊢
      exact h1

theorem resL_ok (hS : Sim P B0 w0 ρ H D w) {tmps : Array Value} (hτ : RT ρ nt τ tmps) : ∀ (rvs : List ResultVar) (rs : List RV) (vs : List V), rvs.mapM (compRV P) = some rs → resL τ H rs = some vs →
    ∃ vs', (rvs.mapM (resOf tmps)).run P w = .ok vs' w ∧ RL ρ vs vs'
  | [], rs, vs, h1, h2 => by
    simp at h1; subst h1
    cases h2
    exact ⟨[], by simp, RL.nil _⟩
  | rv :: rvs, rs, vs, h1, h2 => by
    simp only [List.mapM_cons] at h1
    cases hc : compRV P rv with
    | none => simp [hc] at h1
    | some r =>
      cases hl : rvs.mapM (compRV P) with
      | none => simp [hc, hl] at h1
      | some rs1 =>
        simp [hc, hl] at h1
        subst h1
        simp only [resL] at h2
        split at h2
        case h_2 => cases h2
        rename_i v vs1 e1 e2
        cases h2
        obtain ⟨v', q1, q2⟩ := res1_ok hS hτ hc e1
        obtain ⟨vs', q3, q4⟩ := resL_ok hS hτ rvs rs1 vs1 hl e2
        refine ⟨v' :: vs', ?_, RL.cons q2 q4⟩
        rw [List.mapM_cons, Sem.run_bind, q1, Result.andThen_ok, Sem.run_bind, q3, Result.andThen_ok]
        rfl

theorem results_ok (hS : Sim P B0 w0 ρ H D w) {tmps : Array Value} (hτ : RT ρ nt τ tmps) {fn : Func} {rs : List RV} {vs : List V} (h1 : fn.results.toList.mapM (compRV P) = some rs) (h2 : resL τ H rs = some vs) :
    ∃ v', (results fn tmps).run P w = .ok v' w ∧ R ρ (pack vs) v' := by
  obtain ⟨vs', h3, h4⟩ := resL_ok hS hτ _ _ _ h1 h2
  have hres : results fn tmps = (do let vs ← fn.results.mapM (resOf tmps); pure (if h : vs.size = 1 then vs[0] else .tuple vs)) := rfl
  rw [hres, Array.mapM_eq_mapM_toList, Sem.run_bind]
  have h5 : (List.toArray <$> fn.results.toList.mapM (resOf tmps)).run P w = .ok vs'.toArray w := by
    rw [map_eq_pure_bind, Sem.run_bind, h3]; rfl
  rw [h5, Result.andThen_ok]
  refine ⟨_, rfl, ?_⟩
  cases vs with
  | nil =>
    have : vs' = [] := List.eq_nil_of_length_eq_zero (by rw [← h4.1]; rfl)
    subst this
    exact R.ofTup h4
  | cons v vs =>
    obtain ⟨v', r, rfl, h6, h7⟩ := h4.uncons
    cases vs with
    | nil =>
      have : r = [] := List.eq_nil_of_length_eq_zero (by rw [← h7.1]; rfl)
      subst this
      simpa [pack] using h6
    | cons u us =>
      obtain ⟨u', r', rfl, _, _⟩ := h7.uncons
      simp only [pack]
      rw [dif_neg (by simp)]
      exact R.ofTup (by simpa using h4)

/-! ### The end of a function -/
theorem dfr_take {r : Nat} (hS : Sim P B0 w0 ρ H (r :: D) w) (hD : (r :: D).Nodup) : (Instr.takeDeferred r).run P w = .ok [] (w.putObj r (.deferred none)) ∧ Sim P B0 w0 ρ H D (w.putObj r (.deferred none)) := by
  obtain ⟨h1, h2⟩ := hS.dfr r (by simp)
  refine ⟨run_takeDeferred h2, hS.out, hS.base, ⟨hS.low.os, hS.low.tape, hS.low.output, by rw [World.putObj_size]; exact hS.low.size, fun k hk => (World.putObj_heap_other (by omega)).trans (hS.low.block k hk)⟩, fun k b hb hl => ?_, hS.sep, fun q hq => ?_⟩
  · obtain ⟨L, h3, h4⟩ := hS.blk k b hb hl
    exact ⟨L, h3, h4.heap (World.putObj_heap_other (fun e => h4.notDef hl _ (by rw [e]; exact h2)))⟩
  · obtain ⟨h3, h4⟩ := hS.dfr q (by simp [hq])
    refine ⟨h3, (World.putObj_heap_other ?_).trans h4⟩
    intro e; subst e
    exact (List.nodup_cons.1 hD).1 hq

theorem leaves_ok {fn : Func} {tmps : Array Value} {rs : List RV} {vs : List V} (h1 : fn.results.toList.mapM (compRV P) = some rs) (h2 : resL τ H rs = some vs) (hτ : RT ρ nt τ tmps) {ρ0 : Rho} {H0 : Heap} (ha : Agree H0.length ρ0 ρ) {ro : Option Nat} {n : Nat} :
    ∀ (D1 : List Nat) (w : World), Sim P B0 w0 ρ H (D1 ++ D) w → (D1 ++ D).Nodup → LeavesInM (FW ro) n P fn tmps (CPost P B0 w0 D ρ0 H0 (pack vs) H) (D1.map mark) .returning w
  | [], w, hS, _ => by
    obtain ⟨v', h3, h4⟩ := results_ok hS hτ h1 h2
    exact ⟨v', h3, v', rfl, ρ, h4, ha, hS⟩
  | r :: D1, w, hS, hD => by
    obtain ⟨h3, h4⟩ := dfr_take hS hD
    refine ⟨by simp, .inl ⟨r, _, rfl, h3, leaves_ok h1 h2 hτ ha D1 _ h4 (List.nodup_cons.1 hD).2⟩⟩

/-! ### What the functions are -/
structure EnvOk (P : Program) (E : Env) : Prop where
  c : ∀ g fc, E.C g = some fc → ∃ fn, P.funcs[g]? = some fn ∧ compF P fn = some fc ∧ (fn.name == "runtime.NumGoroutine") = false
  s : ∀ g h args H v H', E.S g = some h → h args H = some (v, H') → Go.Proofs.Enters P g ∧ Grow H H' ∧
    ∀ {B0 : Nat} {w0 : World} {ρ : Rho} {D : List Nat} {w : World} {args' : Array Value}, D.Nodup → Sim P B0 w0 ρ H D w → RL ρ args args'.toList →
      ∀ (ro : Option Nat) (n : Nat), CallsIn (FW ro) n P g args' w (CPost P B0 w0 D ρ H v H')

theorem compF_of {fn : Func} {fc : FC} (h : compF P fn = some fc) : ∃ c, fn.body = some c ∧ comp P fn.ntmps c = some fc.body ∧ fn.results.toList.mapM (compRV P) = some fc.res ∧ fc.nargs ≤ fn.ntmps := by
  unfold compF at h
  split at h
  case h_2 => cases h
  rename_i c hb
  split at h
  case h_2 => cases h
  rename_i m rs hm hrs
  split at h
  · rename_i hle; cases h; exact ⟨c, hb, hm, hrs, hle⟩
  · cases h

theorem args_RT {args : List V} {args' : Array Value} (h : RL ρ args args'.toList) {nt : Nat} (hn : args.length ≤ nt) : RT ρ nt (args0 args) (args' ++ Array.replicate (nt - args'.size) undef) := by
  have hl := h.1
  simp only [Array.length_toList] at hl
  refine ⟨by simp; omega, fun t => ?_⟩
  unfold args0
  by_cases ht : t < args.length
  · have h1 : args[t]? = some args[t] := List.getElem?_eq_getElem ht
    obtain ⟨v', h2, h3⟩ := h.get h1
    rw [h1]
    have : (args' ++ Array.replicate (nt - args'.size) undef).getD t undef = v' := by
      simp only [Array.getElem?_toList] at h2
      rw [Array.getD_eq_getD_getElem?, Array.getElem?_append_left (by omega), h2]; rfl
    rw [this]; exact h3
  · rw [List.getElem?_eq_none (by omega)]
    have : (args' ++ Array.replicate (nt - args'.size) undef).getD t undef = undef := by
      rw [Array.getD_eq_getD_getElem?, Array.getElem?_append_right (by omega), Array.getElem?_replicate]
      split <;> rfl
    rw [this]; exact R.undef _ undef_bool

theorem setps_RT : ∀ {ps : List Nat} {args : List V} {args' : List Value} {τ : Nat → V} {tmps : Array Value}, RT ρ nt τ tmps → RL ρ args args' → (∀ p ∈ ps, p < nt) → RT ρ nt (setps τ ps args) ((ps.zip args').foldl (fun tmps p => tmps.setIfInBounds p.1 p.2) tmps)
  | [], args, args', τ, tmps, hτ, _, _ => by simpa [setps] using hτ
  | p :: ps, [], args', τ, tmps, hτ, hR, _ => by
    have : args' = [] := List.eq_nil_of_length_eq_zero (by rw [← hR.1]; rfl)
    subst this
    simpa [setps] using hτ
  | p :: ps, v :: args, args', τ, tmps, hτ, hR, hp => by
    obtain ⟨v', r, rfl, h1, h2⟩ := hR.uncons
    simp only [setps, List.zip_cons_cons, List.foldl_cons]
    exact setps_RT (hτ.set (hp p (by simp)) h1) h2 fun q hq => hp q (by simp [hq])

set_option maxHeartbeats 1000000 in
theorem callN_ok (hm : P.follows .mixedOrders = true) {E : Env} (hE : EnvOk P E) : ∀ n, CallOk P (callN E n)
  | 0 => ⟨fun h => by simp [callN] at h, fun h => by simp [callN] at h, fun t _ _ _ _ h => by cases t <;> simp [callN] at h⟩
  | n + 1 => by
    have ih := callN_ok hm hE n
    refine ⟨?_, ?_, callN_grow (fun g h args H v H' h1 h2 => (hE.s g h args H v H' h1 h2).2.1) (n + 1)⟩
    · intro g args H v H' h
      simp only [callN] at h
      split at h
      · rename_i hh hs
        obtain ⟨h1, _, h3⟩ := hE.s g hh args H v H' hs h
        exact ⟨h1, fun hD hS hR ro n => h3 hD hS hR ro n⟩
      · split at h
        case h_2 => cases h
        rename_i fc hfc
        split at h
        case isFalse => cases h
        rename_i hlen
        obtain ⟨fn, hf, hcf, hname⟩ := hE.c g fc hfc
        obtain ⟨c, hb, hc, hres, hle⟩ := compF_of hcf
        refine ⟨Go.Proofs.enters_of hf hname hb, fun {B0 w0 ρ D w args'} hD hS hR ro k => ?_⟩
        cases hr : exec (callN E n) n fc.body ⟨args0 args, H⟩ with
        | none => rw [hr] at h; simp [finish] at h
        | some r =>
          obtain ⟨e, s⟩ := r
          rw [hr] at h
          have hcall : CallsIn (FW none) k P g args' w (CPost P B0 w0 D ρ H v H') := by
            refine callsIn_of_wp_marks hf hb trivial ?_
            refine code_ok hm ih n c fc.body hc none (.inl rfl) ⟨args0 args, H⟩ e s hr ρ [] _ w (by simpa using hD) rfl hS (args_RT hR (by omega)) _ fun ρ1 D2 a1 w1 k1 k2 k3 k4 k5 _ => ?_
            cases e with
            | exit i => simp [finish] at h
            | normal =>
              simp only [finish, Option.map_eq_some_iff] at h
              obtain ⟨vs, h1, h2⟩ := h
              cases h2
              simp only [Ex.toE, bodyPostM]
              rw [k4]
              exact leaves_ok hres h1 k3 k1 D2 w1 k2 k5
            | ret =>
              simp only [finish, Option.map_eq_some_iff] at h
              obtain ⟨vs, h1, h2⟩ := h
              cases h2
              simp only [Ex.toE, bodyPostM]
              rw [k4]
              exact leaves_ok hres h1 k3 k1 D2 w1 k2 k5
          exact hcall
    · intro k args H v H' h B0 w0 ρ D w args' L hD hS hR hL
      simp only [callN] at h
      split at h
      case h_2 => cases h
      rename_i τ ps masg mbody hk
      split at h
      case isFalse => cases h
      rename_i hlen
      obtain ⟨x, h1, h2⟩ := endRound_iff.1 h
      obtain ⟨e, s2⟩ := x
      obtain ⟨s, s1, h3, h4, h5⟩ := aBegin_iff.1 h1
      obtain ⟨lo, nt, l1, l2, l3, l4, l5, l6, l7, l8, l9, l10⟩ := hS.loop hk hL
      have hsz : args'.size = lo.params.size := by
        have := hR.1
        simp only [Array.length_toList] at this
        rw [← Array.length_toList (xs := lo.params), l4]; omega
      refine ⟨_, _, _, _, run_yield l1 hsz, fun ro j => ?_⟩
      refine roundIn_of_wpIn trivial ?_
      have hτ0 : RT ρ nt (setps τ ps args) ((lo.params.zip args').foldl (fun tmps (t, a) => tmps.setIfInBounds t a) lo.tmps) := by
        have := setps_RT l3 hR l5
        rw [← Array.foldl_toList, Array.toList_zip, l4]
        exact this
      refine code_ok (D := D) hm ih n lo.assign masg l6 (some L.blk) (.inr l8) ⟨setps τ ps args, H⟩ .normal s h3 ρ [] _ w (by simpa using hD) rfl hS hτ0 _ fun ρ1 D2 a1 w1 k1 k2 k3 k4 k5 k6 => ?_
      have hD2 := k6 l8
      subst hD2
      unfold beginRound at h4
      split at h4
      case h_2 => cases h4
      rename_i τ1 ps1 asg1 body1 hk1
      cases h4
      have hkH : k < H.length := (List.getElem?_eq_some_iff.1 hk).1
      have hL1 : ρ1 k = some L := (k1 k hkH).trans hL
      obtain ⟨lo1, nt1, m1, m2, m3, m4, m5, m6, m7, m8, m9, m10⟩ := k2.loop hk1 hL1
      refine ⟨_, run_beginRound m1 m10.1, ?_⟩
      have hS2 : Sim P B0 w0 ρ1 (s.H.set k (.lp τ1 ps1 asg1 body1 .busy)) D (w1.putObj L.blk (.loop { lo1 with state := .busy })) :=
        k2.putLoop hk1 rfl hL1 m1 fun _ => ⟨_, nt1, World.putObj_heap_same (Array.getElem?_eq_some_iff.1 m1).1, m2, m3, m4, m5, m6, m7, m8, m9, rfl⟩
      refine code_ok (D := D) hm ih n lo.body mbody l7 (some L.blk) (.inr l9) ⟨s.τ, s.H.set k (.lp τ1 ps1 asg1 body1 .busy)⟩ e s2 h5 ρ1 [] a1 _ (by simpa using hD) k4 hS2 k3 _ fun ρ2 D3 a2 w2 q1 q2 q3 q4 q5 q6 => ?_
      have hD3 := q6 l9
      subst hD3
      simp only [endRound] at h2
      split at h2
      case h_2 => cases h2
      rename_i τ2 ps2 asg2 body2 hk2
      cases h2
      have hks : k < (s.H.set k (.lp τ1 ps1 asg1 body1 .busy)).length := by simp; exact (List.getElem?_eq_some_iff.1 hk1).1
      have hL2 : ρ2 k = some L := (q1 k hks).trans hL1
      obtain ⟨lo2, nt2, p1, p2, p3, p4, p5, p6, p7, p8, p9, p10⟩ := q2.loop hk2 hL2
      have hag : Agree H.length ρ ρ2 := fun i hi => by
        have hg := (exec_grow ih.grow _ _ _ _ _ h3).1
        simp only at hg
        rw [q1 i (by simp; omega)]
        exact k1 i hi
      have hfin : ∀ (jump : Option Code) (st : LS), LSOk st { lo2 with state := if jump.isNone then .ready else .done, pending := jump } → CPost P B0 w0 D ρ H (.bool jump.isNone) (s2.H.set k (.lp τ2 ps2 asg2 body2 st)) (.returned (.bool jump.isNone)) (w2.putObj L.blk (.loop { lo2 with state := if jump.isNone then .ready else .done, pending := jump })) :=
        fun jump st hst => ⟨_, rfl, ρ2, R.bool _, hag, q2.putLoop hk2 rfl hL2 p1 fun _ => ⟨_, nt2, World.putObj_heap_same (Array.getElem?_eq_some_iff.1 p1).1, p2, p3, p4, p5, p6, p7, p8, p9, hst⟩⟩
      cases e with
      | normal => exact ⟨_, _, run_endRound none p1, hfin none .ready ⟨rfl, rfl⟩⟩
      | exit i => exact ⟨_, _, run_endRound (some (.exit i)) p1, hfin (some (.exit i)) (.done (.exit i)) ⟨rfl, rfl, by simp⟩⟩
      | ret => exact ⟨_, _, run_endRound (some .ret) p1, hfin (some .ret) (.done .ret) ⟨rfl, rfl, by simp⟩⟩

/-- THE WHOLE: what the limit of the abstract run answers, the machine answers. -/
theorem calls_of (hm : P.follows .mixedOrders = true) {E : Env} (hE : EnvOk P E) {g : Nat} {args : List V} {H : Heap} {v : V} {H' : Heap} (h : callL E (.f g) args H = some (v, H')) {args' : Array Value} {w : World} {ρ : Rho}
    (hS : Sim P w.heap.size w ρ H [] w) (hR : RL ρ args args'.toList) : Calls P g args' w fun e w' => ∃ v', e = .returned v' ∧ ∃ ρ', R ρ' v v' ∧ Agree H.length ρ ρ' ∧ Sim P w.heap.size w ρ' H' [] w' := by
  obtain ⟨n, hn⟩ := callL_iff.1 h
  exact (callsIn_wide (n := 0)).1 (((callN_ok hm hE n).f hn).2 List.nodup_nil hS hR none 0)
end Go.Ar
