/- One instruction, a row of them, carried out by the machine. -/
import Derived.Test.YtpojdgeginigjaaAr12
set_option linter.unusedSimpArgs false
set_option linter.unusedVariables false
set_option linter.unnecessarySimpa false
namespace Go.Ar
open Go.RowKit

variable {P : Program} {B0 : Nat} {w0 : World} {ρ : Rho} {H : Heap} {D : List Nat} {w : World} {nt : Nat} {τ : Nat → V} {a : Act} {call : CallF}

theorem undef_bool (b : Bool) : (undef : Value) ≠ .bool b := by simp [undef]

theorem noCall_eq {i : I} {r : V × Heap} (h : aop call τ H (noCall i) = some r) : noCall i = i ∧ ∀ f args, i ≠ .call f args := by
  unfold noCall at h ⊢
  split at h
  · simp [aop] at h
  · rename_i hn
    exact ⟨rfl, hn⟩
theorem noNew_eq {i : I} {r : V × Heap} (h : aop call τ H (noNew i) = some r) : noNew i = i := by
  unfold noNew at h ⊢
  split at h <;> first | (simp [aop] at h; done) | rfl
theorem compOpC_cases (o : Oper) : (∃ (c : Call) (f0 : Operand), o.op = .call c ∧ c.callee = .value f0 ∧ compOpC P o = .call (cX f0) (c.args.toList.map cX)) ∨ (compOpC P o = noCall (compOp P o) ∧ newOp o = true) ∨ compOpC P o = noNew (noCall (compOp P o)) := by
  unfold compOpC
  split
  · rename_i c hc
    split
    · rename_i f hf; exact .inl ⟨c, f, hc, hf, rfl⟩
    · exact .inr (.inr rfl)
  · split
    · rename_i h; exact .inr (.inl ⟨rfl, h⟩)
    · exact .inr (.inr rfl)
theorem compOpC_plain {o : Oper} {r : V × Heap} (hc : compOpC P o = noCall (compOp P o) ∨ compOpC P o = noNew (noCall (compOp P o))) (h : aop call τ H (compOpC P o) = some r) :
    compOpC P o = compOp P o ∧ ∀ f args, compOp P o ≠ .call f args := by
  rcases hc with hc | hc
  · rw [hc] at h ⊢
    exact noCall_eq h
  · rw [hc] at h ⊢
    have e := noNew_eq h
    rw [e] at h ⊢
    exact noCall_eq h

theorem guard_ok {ops : Array Oper} {o : Oper} {g : Option (Nat × Bool)} (hg : compG ops.toList o = some g) (hτ : RT ρ nt τ a.tmps) {b : Bool} (h : wanted τ g = some b) :
    Region.wanted o (yielded ops a.tmps) = b := by
  unfold compG at hg
  unfold Region.wanted
  cases hgo : o.guard with
  | none => rw [hgo] at hg; cases hg; cases h; rfl
  | some p =>
    obtain ⟨j, c⟩ := p
    rw [hgo] at hg
    simp only at hg ⊢
    split at hg
    · rename_i q hq
      simp only [Option.map_eq_some_iff] at hg
      obtain ⟨d, hd, rfl⟩ := hg
      have hq' : ops[j]? = some q := by simpa using hq
      simp only [wanted] at h
      have hr := hτ.2 d
      unfold yielded
      simp only [hq', Option.bind_some, hd]
      have hget : a.tmps.getD d undef = (a.tmps[d]?).getD undef := by simp
      rw [hget] at hr
      generalize a.tmps[d]? = q1 at hr ⊢
      split at h
      · rename_i e he
        rw [he] at hr
        have hb := hr.bool_inv
        cases q1 with
        | none => exact absurd hb (undef_bool _)
        | some v => simp only [Option.getD_some] at hb; subst hb; cases h; cases e <;> cases c <;> rfl
      · rename_i he
        rw [he] at hr
        cases h
        generalize hv : q1.getD undef = v at hr
        cases hr with
        | undef _ hn =>
          split
          · exact absurd hv.symm (hn _)
          · rfl
      · cases h
    · cases hg

/-- Where the machine stands behind an operation. -/
def Kont (P : Program) (B0 : Nat) (w0 : World) (D : List Nat) (nt : Nat) (ρ : Rho) (n : Nat) (a : Act) (s' : St) (K : Act → World → Prop) : Prop :=
  ∀ (ρ' : Rho) (a' : Act) (w' : World), Agree n ρ ρ' → Sim P B0 w0 ρ' s'.H D w' → RT ρ' nt s'.τ a'.tmps → a'.defers = a.defers → K a' w'

theorem put_RT {ρ' : Rho} (hle : RLe ρ ρ') (hτ : RT ρ nt τ a.tmps) {dst : Option Nat} (hd : ∀ d, dst = some d → d < nt) {v : V} {v' : Value} (hv : R ρ' v v') : RT ρ' nt (put τ dst v) (a.put dst v').tmps := by
  cases dst with
  | none => exact hτ.mono hle
  | some d => exact (hτ.mono hle).set (hd d rfl) hv
theorem put_defers (a : Act) (dst : Option Nat) (v : Value) : (a.put dst v).defers = a.defers := by cases dst <;> rfl

theorem oper_ok (hC : CallOk P call) (o : Oper) (hD : D.Nodup) (hS : Sim P B0 w0 ρ H D w) (hτ : RT ρ nt τ a.tmps) (hd : ∀ d, o.dst = some d → d < nt) {r : V × Heap} (h : aop call τ H (compOpC P o) = some r)
    {K : Act → World → Prop} {Q : Exit → Act → World → Prop} {ro : Option Nat} {n : Nat} (hK : Kont P B0 w0 D nt ρ H.length a ⟨put τ o.dst r.1, r.2⟩ K) : o.wpIn (FW ro) n P a w K Q := by
  refine ⟨fun _ _ => trivial, ?_⟩
  rcases compOpC_cases (P := P) o with ⟨c, f0, hop, hcal, hc⟩ | hcall
  · rw [hc] at h
    obtain ⟨callee, xs0, ts⟩ := c
    simp only at hcal h
    subst hcal
    rw [Oper.semAt_eq _ _ _ (by intro c hh; rw [hop] at hh; cases hh)]
    have hargs := args_ok hτ xs0
    have hf := ev_ok hτ f0
    simp only [aop] at h
    unfold execOp
    rw [hop]
    simp only [resolve]
    split at h
    · -- a function
      rename_i g fi ca hev
      rw [hev] at hf
      generalize a.eval f0 = fv at hf
      cases hf with
      | @fn _ _ _ a' b' ha hb h1 h2 =>
      obtain ⟨hent, hcalls⟩ := hC.f h
      have hRL : RL ρ (fi ++ (xs0.toList.map cX).map (ev τ) ++ ca) (a' ++ xs0.map a.eval ++ b').toList := by
        have := (RL.append (RL.append (⟨ha, h1⟩ : RL ρ fi a'.toList) hargs) (⟨hb, h2⟩ : RL ρ ca b'.toList))
        simpa using this
      have hrun : ∀ (args : Array Value) (w : World), (callFunc g args).run P w = .ok (.enter g args) w := hent
      have hsem : ((do let d ← Deferred.ofValue (Value.func (.func g) a' b') (xs0.map a.eval); invoke d.target d.args) : Sem Next).run P w = .ok (.enter g (a' ++ xs0.map a.eval ++ b')) w := by
        simp [Deferred.ofValue, invoke, hrun, Sem.run_bind, Result.andThen]
      rw [hsem]
      refine ⟨fun h => by simp at h, (hcalls hD hS hRL ro _).mono fun e w' hp => ?_⟩
      obtain ⟨v', rfl, ρ', hR, ha, hS'⟩ := hp
      exact hK ρ' _ w' ha hS' (put_RT (hS.le ha) hτ hd hR) (put_defers _ _ _)
    · -- yield
      rename_i k hev
      rw [hev] at hf
      generalize a.eval f0 = fv at hf
      cases hf with
      | @yld _ L hL =>
      obtain ⟨fid, tmps, asg, body, hy, hround⟩ := hC.y h hD hS hargs hL
      have hsem : ((do let d ← Deferred.ofValue (Value.func (.yield L.blk) #[] #[]) (xs0.map a.eval); invoke d.target d.args) : Sem Next).run P w = .ok (.round L.blk fid tmps asg body) w := by
        simp [Deferred.ofValue, invoke, hy, Sem.run_bind, Result.andThen]
      rw [hsem]
      refine ⟨fun h => by simp at h, (hround ro _).mono fun e w' hp => ?_⟩
      obtain ⟨v', rfl, ρ', hR, ha, hS'⟩ := hp
      exact hK ρ' _ w' ha hS' (put_RT (hS.le ha) hτ hd hR) (put_defers _ _ _)
    · cases h
  · obtain ⟨heq, hnc⟩ := compOpC_plain (hcall.imp And.left id) h
    rw [heq] at h
    rw [Oper.semAt_eq _ _ _ (by intro c hh; rw [show compOp P o = .bad by unfold compOp; rw [hh]] at h; simp [aop] at h)]
    obtain ⟨nx, w', ρ', hrun, hnx, ha, hS'⟩ := op_ok hS hτ o hnc h
    rw [hrun]
    rcases hnx with ⟨v', rfl, hR⟩ | ⟨rfl, hu⟩
    · exact hK ρ' _ w' ha hS' (put_RT (hS.le ha) hτ hd hR) (put_defers _ _ _)
    · exact hK ρ' _ w' ha hS' (put_RT (hS.le ha) hτ hd (by rw [hu]; exact R.undef _ undef_bool)) (put_defers _ _ _)

theorem compIns_of {ops : List Oper} {o : Oper} {x : Ins} (h : compIns P nt ops o = some x) : x.dst = o.dst ∧ x.i = compOpC P o ∧ compG ops o = some x.g ∧ ∀ d, o.dst = some d → d < nt := by
  unfold compIns at h
  cases hd : o.dst with
  | none =>
    simp only [hd, if_true, Option.map_eq_some_iff] at h
    obtain ⟨g, hg, rfl⟩ := h
    exact ⟨rfl, rfl, hg, fun d e => by cases e⟩
  | some d =>
    simp only [hd, decide_eq_true_eq] at h
    split at h
    · rename_i hl
      simp only [Option.map_eq_some_iff] at h
      obtain ⟨g, hg, rfl⟩ := h
      exact ⟨rfl, rfl, hg, fun d e => by cases e; exact hl⟩
    · cases h

theorem ins_ok (hC : CallOk P call) {ops : Array Oper} {i : Nat} {o : Oper} (ho : ops[i]? = some o) {x : Ins} (hx : compIns P nt ops.toList o = some x) (hD : D.Nodup) {s s' : St} (h : ins call x s = some s')
    (hS : Sim P B0 w0 ρ s.H D w) (hτ : RT ρ nt s.τ a.tmps) {K : Act → World → Prop} {Q : Exit → Act → World → Prop} {ro : Option Nat} {n : Nat} (hK : Kont P B0 w0 D nt ρ s.H.length a s' K) : wpOpIn (FW ro) n P ops Q i K a w := by
  obtain ⟨h1, h2, h3, h4⟩ := compIns_of hx
  unfold wpOpIn
  simp only [ho]
  unfold ins at h
  split at h
  · rename_i hw
    rw [guard_ok h3 hτ hw]
    simp only [if_true] at h ⊢
    simp only [Option.map_eq_some_iff] at h
    obtain ⟨p, hp, rfl⟩ := h
    rw [h2] at hp
    exact oper_ok hC o hD hS hτ h4 hp (by rw [← h1]; exact hK)
  · rename_i hw
    rw [guard_ok h3 hτ hw]
    simp only [Bool.false_eq_true, if_false]
    cases h
    exact ⟨fun _ _ => trivial, hK ρ _ w (Agree.refl _ _) hS (by rw [h1]; exact put_RT (fun _ _ h => h) hτ h4 (R.undef _ undef_bool)) (put_defers _ _ _)⟩
  · cases h

/-! ### A region whose order is settled -/
theorem Kont.trans_le {ρ1 : Rho} {n m : Nat} {a a1 : Act} {s' : St} {K : Act → World → Prop} (hK : Kont P B0 w0 D nt ρ n a s' K) (ha : Agree n ρ ρ1) (hnm : n ≤ m) (hd : a1.defers = a.defers) :
    Kont P B0 w0 D nt ρ1 m a1 s' K := fun ρ' a' w' h1 h2 h3 h4 => hK ρ' a' w' (ha.trans h1 hnm) h2 h3 (h4.trans hd)

theorem insL_ok (hC : CallOk P call) {ops : Array Oper} (hD : D.Nodup) {Q : Exit → Act → World → Prop} {ro : Option Nat} {n : Nat} : ∀ (m i : Nat) (xs : List Ins) (s s' : St) (ρ : Rho) (a : Act) (w : World), i + m = ops.size →
    (∀ (j : Nat) (o : Oper), ops[i + j]? = some o → ∃ x, xs[j]? = some x ∧ compIns P nt ops.toList o = some x) → xs.length = m →
    insL call xs s = some s' → Sim P B0 w0 ρ s.H D w → RT ρ nt s.τ a.tmps → Kont P B0 w0 D nt ρ s.H.length a s' (Q .normal) →
    wpOpsIn (FW ro) n P ops Q (List.range' i m) a w
  | 0, i, xs, s, s', ρ, a, w, _, _, hl, h, hS, hτ, hK => by
    have : xs = [] := List.eq_nil_of_length_eq_zero hl
    subst this
    cases h
    exact hK ρ a w (Agree.refl _ _) hS hτ rfl
  | m + 1, i, xs, s, s', ρ, a, w, him, hx, hl, h, hS, hτ, hK => by
    cases xs with
    | nil => simp at hl
    | cons x xs =>
      simp only [insL, Option.bind_eq_some_iff] at h
      obtain ⟨s1, h1, h2⟩ := h
      have hlt : i < ops.size := by omega
      have hi : ops[i]? = some ops[i] := by simp [hlt]
      obtain ⟨y, hy, hcy⟩ := hx 0 ops[i] (by simpa using hi)
      simp at hy; subst hy
      rw [List.range'_succ, wpOpsIn_cons]
      refine ins_ok hC hi hcy hD h1 hS hτ fun ρ' a' w' ha hS' hτ' hd' => ?_
      have hg := ins_grow hC.grow h1
      refine insL_ok hC hD m (i + 1) xs s1 s' ρ' a' w' (by omega) (fun j o hj => ?_) (by simpa using hl) h2 hS' hτ' (hK.trans_le ha hg.1 hd')
      obtain ⟨y, hy, hcy⟩ := hx (j + 1) o (by rw [← hj]; congr 1; omega)
      exact ⟨y, by simpa using hy, hcy⟩

theorem mapM_get {α β : Type} {f : α → Option β} : ∀ {l : List α} {r : List β}, l.mapM f = some r → r.length = l.length ∧ ∀ (j : Nat) (x : α), l[j]? = some x → ∃ y, r[j]? = some y ∧ f x = some y
  | [], r, h => by simp at h; subst h; simp
  | x :: l, r, h => by
    simp only [List.mapM_cons] at h
    cases hx : f x with
    | none => simp [hx] at h
    | some y =>
      cases hl : l.mapM f with
      | none => simp [hx, hl] at h
      | some ys =>
        simp [hx, hl] at h
        subst h
        obtain ⟨h1, h2⟩ := mapM_get hl
        refine ⟨by simp [h1], fun j z hz => ?_⟩
        cases j with
        | zero => simp at hz; subst hz; exact ⟨y, rfl, hx⟩
        | succ j => simp at hz ⊢; exact h2 j z hz

theorem reg_ok (hC : CallOk P call) {id : Nat} {ops : Array Oper} {is : List Ins} (hm : ops.toList.mapM (compIns P nt ops.toList) = some is) (hD : D.Nodup) {s s' : St} (h : insL call is s = some s')
    (hS : Sim P B0 w0 ρ s.H D w) (hτ : RT ρ nt s.τ a.tmps) {Q : Exit → Act → World → Prop} {ro : Option Nat} {n : Nat} (hK : Kont P B0 w0 D nt ρ s.H.length a s' (Q .normal)) : (Code.region id ops false).wpIn (FW ro) n P Q a w := by
  obtain ⟨h1, h2⟩ := mapM_get hm
  refine wpIn_region ?_
  rw [List.range_eq_range']
  exact insL_ok hC hD ops.size 0 is s s' ρ a w (by omega) (fun j o hj => h2 j o (by simpa using hj)) (by simpa using h1) h hS hτ hK
end Go.Ar
