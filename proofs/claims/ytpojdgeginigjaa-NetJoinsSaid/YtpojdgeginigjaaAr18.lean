/- The code: what the abstract run of it comes to, the machine comes to. -/
import Derived.Test.YtpojdgeginigjaaAr17
import Derived.LoopNIn
set_option linter.unusedSimpArgs false
set_option linter.unusedVariables false
namespace Go.Ar
open Go.RowKit

/-! ### A scope, without goto -/
section
variable {P : Program} {b : Frame} {a : Act} {k : List Item} {cs : List Frame} {w : World} {Q : Exit → Act → World → Prop} {F : Fence} {n : Nat}
theorem stepR_scope {c : Code} : step P (lone (b.atR a (.code (.scope c) :: k)) cs w) = .next (lone (b.atR a (.code c :: .inScope c :: k)) cs w) :=
  step_lone_go (by simp [stepG, stepG.exec, Frame.atR])
theorem stepR_inScope {c : Code} : step P (lone (b.atR a (.inScope c :: k)) cs w) = .next (lone (b.atR a k) cs w) :=
  step_lone_go (by simp [stepG, stepG.exec, Frame.atR])
def noGoto (Q : Exit → Act → World → Prop) : Exit → Act → World → Prop
  | .goto _, _, _ => False
  | e, a, w => Q e a w
theorem wpIn_scope {c : Code} (h : c.wpIn F n P (noGoto Q) a w) : (Code.scope c).wpIn F n P Q a w := by
  intro b k cs hro hb hr
  have h0 : (lone (b.atR a (.code (.scope c) :: k)) cs w).fenced P F := fenced_calm hb hr rfl
  obtain ⟨e, a₁, w₁, hq, harr⟩ := h b (.inScope c :: k) cs hro hb hr
  cases e with
  | normal => exact ⟨.normal, a₁, w₁, hq, .head h0 stepR_scope (StepsIn.trans harr (.one (fenced_calm hb hr rfl) stepR_inScope))⟩
  | exit id =>
    have hx : exitTo id (.inScope c :: k) = exitTo id k := by simp [exitTo]
    exact ⟨.exit id, a₁, w₁, hq, fun k' hk => .head h0 stepR_scope (harr.1 k' (by rw [hx]; exact hk)),
      fun hr' hk => let ⟨k₁, h1, h2⟩ := harr.2 hr' (by rw [hx]; exact hk); ⟨k₁, h1, .head h0 stepR_scope h2⟩⟩
  | goto l => exact hq.elim
  | ret => exact ⟨_, a₁, w₁, hq, .of_steps (.one h0 stepR_scope) harr⟩
  | panic ch => exact ⟨_, a₁, w₁, hq, .of_steps (.one h0 stepR_scope) harr⟩
  | outgrown => exact ⟨_, a₁, w₁, hq, .of_steps (.one h0 stepR_scope) harr⟩
end

/-! ### The code -/
def Ex.toE : Ex → Exit
  | .normal => .normal
  | .exit i => .exit i
  | .ret => .ret
def mark (r : Nat) : Deferred := { target := .collected r, args := #[] }

variable {P : Program} {B0 : Nat} {w0 : World} {ρ : Rho} {H : Heap} {D : List Nat} {w : World} {nt : Nat} {τ τ' : Nat → V} {a : Act} {call : CallF} {N nh : Nat}

/-- Where the machine stands behind a piece of code. -/
def KonC (P : Program) (B0 : Nat) (w0 : World) (D : List Nat) (nt : Nat) (ρ : Rho) (n : Nat) (D1 : List Nat) (s' : St) (nr : Bool) (K : Act → World → Prop) : Prop :=
  ∀ (ρ' : Rho) (D1' : List Nat) (a' : Act) (w' : World), Agree n ρ ρ' → Sim P B0 w0 ρ' s'.H (D1' ++ D) w' → RT ρ' nt s'.τ a'.tmps → a'.defers = D1'.map mark → (D1' ++ D).Nodup → (nr = true → D1' = D1) → K a' w'

theorem KonC.of {s' : St} {K : Act → World → Prop} {D1 : List Nat} {n : Nat} {nr : Bool} (h : KonC P B0 w0 D nt ρ n D1 s' nr K) (hD : (D1 ++ D).Nodup) (hdef : a.defers = D1.map mark) : Kont P B0 w0 (D1 ++ D) nt ρ n a s' K :=
  fun ρ' a' w' h1 h2 h3 h4 => h ρ' D1 a' w' h1 h2 h3 (h4.trans hdef) hD (fun _ => rfl)

theorem dfr_alloc (hS : Sim P B0 w0 ρ H D w) : Sim P B0 w0 ρ H (w.heap.size :: D) (w.alloc (.deferred (some []))) := by
  refine ⟨hS.out, hS.base, hS.low.alloc hS.sizeLe _, fun k b hb hl => ?_, hS.sep, fun r hr => ?_⟩
  · obtain ⟨L, h1, h2⟩ := hS.blk k b hb hl
    exact ⟨L, h1, h2.heap (Below.heap_alloc w _ _ (h2.lt hl))⟩
  · rcases List.mem_cons.1 hr with rfl | hr
    · exact ⟨hS.sizeLe, World.alloc_heap_new w _⟩
    · obtain ⟨h1, h2⟩ := hS.dfr r hr
      exact ⟨h1, (Below.heap_alloc w _ r (Array.getElem?_eq_some_iff.1 h2).1).trans h2⟩
theorem dfr_fresh (hS : Sim P B0 w0 ρ H D w) : w.heap.size ∉ D := fun h => by
  have := (Array.getElem?_eq_some_iff.1 (hS.dfr _ h).2).1
  omega

/-- The loop's record turned. -/
theorem Sim.putLoop (hS : Sim P B0 w0 ρ H D w) {k : Nat} {b b' : Blk} {L : Loc} (hk : H[k]? = some b) (hbo : b.own = true) (hL : ρ k = some L) {lo lo' : Loop} (hw : w.heap[L.blk]? = some (.loop lo))
    (hb' : b'.live = true → BlkOk P B0 ρ L (w.putObj L.blk (.loop lo')) b') : Sim P B0 w0 ρ (H.set k b') D (w.putObj L.blk (.loop lo')) :=
  hS.mod hk hbo hL rfl rfl rfl World.putObj_size (fun j hj => World.putObj_heap_other hj) hb'

theorem Sim.loop (hS : Sim P B0 w0 ρ H D w) {k : Nat} {τ : Nat → V} {ps : List Nat} {asg body : MC} {st : LS} (hk : H[k]? = some (.lp τ ps asg body st)) {L : Loc} (hL : ρ k = some L) :
    ∃ (lo : Loop) (nt : Nat), w.heap[L.blk]? = some (.loop lo) ∧ B0 ≤ L.blk ∧ RT ρ nt τ lo.tmps ∧ lo.params.toList = ps ∧ (∀ p ∈ ps, p < nt) ∧ comp P nt lo.assign = some asg ∧ comp P nt lo.body = some body ∧ noR asg = true ∧ noR body = true ∧ LSOk st lo := by
  obtain ⟨L', h1, h2⟩ := hS.blk k _ hk rfl
  rw [hL] at h1; cases h1
  exact h2

set_option maxHeartbeats 1000000 in
theorem code_ok (hm : P.follows .mixedOrders = true) (hC : CallOk P call) (fuel : Nat) {n : Nat} : ∀ (c : Code) (m : MC), comp P nt c = some m → ∀ (ro : Option Nat), (ro = none ∨ noR m = true) →
    ∀ (s : St) (e : Ex) (s' : St), exec call fuel m s = some (e, s') → ∀ (ρ : Rho) (D1 : List Nat) (a : Act) (w : World), (D1 ++ D).Nodup → a.defers = D1.map mark → Sim P B0 w0 ρ s.H (D1 ++ D) w → RT ρ nt s.τ a.tmps →
    ∀ (Q : Exit → Act → World → Prop), KonC P B0 w0 D nt ρ s.H.length D1 s' (noR m) (Q e.toE) → c.wpIn (FW ro) n P Q a w := by
  intro c
  induction c with
  | skip =>
    intro m hcm ro hro s e s' h ρ D1 a w hD hdef hS hτ Q hK
    cases hcm; cases h
    exact wpIn_skip (hK ρ D1 a w (Agree.refl _ _) hS hτ hdef hD (fun _ => rfl))
  | label l =>
    intro m hcm ro hro s e s' h ρ D1 a w hD hdef hS hτ Q hK
    cases hcm; cases h
    exact wpIn_label (hK ρ D1 a w (Agree.refl _ _) hS hτ hdef hD (fun _ => rfl))
  | exit id =>
    intro m hcm ro hro s e s' h ρ D1 a w hD hdef hS hτ Q hK
    cases hcm; cases h
    exact wpIn_exit (hK ρ D1 a w (Agree.refl _ _) hS hτ hdef hD (fun _ => rfl))
  | ret =>
    intro m hcm ro hro s e s' h ρ D1 a w hD hdef hS hτ Q hK
    cases hcm; cases h
    exact wpIn_ret (hK ρ D1 a w (Agree.refl _ _) hS hτ hdef hD (fun _ => rfl))
  | goto l => intro m hcm; cases hcm
  | refuse y => intro m hcm; cases hcm
  | region id ops draw =>
    intro m hcm ro hro s e s' h ρ D1 a w hD hdef hS hτ Q hK
    simp only [comp] at hcm
    cases draw with
    | true =>
      simp only [if_true] at hcm
      refine dreg_ok hm hC hcm hD h hS hτ fun he => ?_
      subst he
      exact hK.of hD hdef
    | false =>
      simp only [Bool.false_eq_true, if_false, Option.map_eq_some_iff] at hcm
      obtain ⟨is, his, rfl⟩ := hcm
      simp only [exec, Option.map_eq_some_iff] at h
      obtain ⟨s1, h1, h⟩ := h
      cases h
      exact reg_ok hC his hD h1 hS hτ (hK.of hD hdef)
  | seq x y ihx ihy =>
    intro m hcm ro hro s e s' h ρ D1 a w hD hdef hS hτ Q hK
    simp only [comp] at hcm
    split at hcm
    case h_2 => cases hcm
    rename_i mx my hx hy
    cases hcm
    have hrox : ro = none ∨ noR mx = true := hro.imp id fun h => by simp [noR] at h; exact h.1
    have hroy : ro = none ∨ noR my = true := hro.imp id fun h => by simp [noR] at h; exact h.2
    refine wpIn_seq ?_
    rcases andThen_iff.1 h with ⟨s1, h1, h2⟩ | ⟨h1, hne⟩
    · refine ihx mx hx ro hrox s .normal s1 h1 ρ D1 a w hD hdef hS hτ _ fun ρ1 D2 a1 w1 k1 k2 k3 k4 k5 k6 => ?_
      refine ihy my hy ro hroy s1 e s' h2 ρ1 D2 a1 w1 k5 k4 k2 k3 Q fun ρ2 D3 a2 w2 q1 q2 q3 q4 q5 q6 => ?_
      refine hK ρ2 D3 a2 w2 (k1.trans q1 (exec_grow hC.grow _ _ _ _ _ h1).1) q2 q3 q4 q5 fun hn => ?_
      simp only [noR, Bool.and_eq_true] at hn
      exact (q6 hn.2).trans (k6 hn.1)
    · refine ihx mx hx ro hrox s e s' h1 ρ D1 a w hD hdef hS hτ _ fun ρ1 D2 a1 w1 k1 k2 k3 k4 k5 k6 => ?_
      have := hK ρ1 D2 a1 w1 k1 k2 k3 k4 k5 (fun hn => by simp only [noR, Bool.and_eq_true] at hn; exact k6 hn.1)
      cases e with
      | normal => exact absurd rfl hne
      | exit i => exact this
      | ret => exact this
  | cond q x y ihx ihy =>
    intro m hcm ro hro s e s' h ρ D1 a w hD hdef hS hτ Q hK
    simp only [comp] at hcm
    split at hcm
    case h_2 => cases hcm
    rename_i mx my hx hy
    cases hcm
    have hrox : ro = none ∨ noR mx = true := hro.imp id fun h => by simp [noR] at h; exact h.1
    have hroy : ro = none ∨ noR my = true := hro.imp id fun h => by simp [noR] at h; exact h.2
    simp only [exec] at h
    split at h
    case h_2 => cases h
    rename_i t ht
    have hq := ev_ok hτ q
    rw [ht] at hq
    cases t with
    | true =>
      refine wpIn_cond_true hq.bool_inv (ihx mx hx ro hrox s e s' h ρ D1 a w hD hdef hS hτ Q fun ρ1 D2 a1 w1 k1 k2 k3 k4 k5 k6 => hK ρ1 D2 a1 w1 k1 k2 k3 k4 k5 fun hn => ?_)
      simp only [noR, Bool.and_eq_true] at hn
      exact k6 hn.1
    | false =>
      refine wpIn_cond_false hq.bool_inv (ihy my hy ro hroy s e s' h ρ D1 a w hD hdef hS hτ Q fun ρ1 D2 a1 w1 k1 k2 k3 k4 k5 k6 => hK ρ1 D2 a1 w1 k1 k2 k3 k4 k5 fun hn => ?_)
      simp only [noR, Bool.and_eq_true] at hn
      exact k6 hn.2
  | block id x ih =>
    intro m hcm ro hro s e s' h ρ D1 a w hD hdef hS hτ Q hK
    simp only [comp, Option.map_eq_some_iff] at hcm
    obtain ⟨mx, hx, rfl⟩ := hcm
    simp only [exec] at h
    refine wpIn_block ?_
    cases hr : exec call fuel mx s with
    | none => rw [hr] at h; simp [unblk] at h
    | some r =>
      obtain ⟨e1, s1⟩ := r
      rw [hr] at h
      refine ih mx hx ro hro s e1 s1 hr ρ D1 a w hD hdef hS hτ _ fun ρ1 D2 a1 w1 k1 k2 k3 k4 k5 k6 => ?_
      cases e1 with
      | normal => simp only [unblk] at h; cases h; exact hK ρ1 D2 a1 w1 k1 k2 k3 k4 k5 k6
      | ret => simp only [unblk] at h; cases h; exact hK ρ1 D2 a1 w1 k1 k2 k3 k4 k5 k6
      | exit i =>
        simp only [unblk] at h
        simp only [Ex.toE, Exit.inBlock]
        split at h
        · rename_i hi; cases h; rw [if_pos hi]; exact hK ρ1 D2 a1 w1 k1 k2 k3 k4 k5 k6
        · rename_i hi; cases h; rw [if_neg hi]; exact hK ρ1 D2 a1 w1 k1 k2 k3 k4 k5 k6
  | loop x ih =>
    intro m hcm ro hro s e s' h ρ D1 a w hD hdef hS hτ Q hK
    simp only [comp, Option.map_eq_some_iff] at hcm
    obtain ⟨mx, hx, rfl⟩ := hcm
    refine wpIn_loop_rounds fuel ?_
    have key : ∀ (k : Nat) (s : St), iter k (exec call fuel mx) s = some (e, s') → ∀ (ρ : Rho) (D1 : List Nat) (a : Act) (w : World), (D1 ++ D).Nodup → a.defers = D1.map mark → Sim P B0 w0 ρ s.H (D1 ++ D) w → RT ρ nt s.τ a.tmps →
        KonC P B0 w0 D nt ρ s.H.length D1 s' (noR mx) (Q e.toE) → Code.roundsIn (FW ro) n P x Q k a w := by
      intro k
      induction k with
      | zero => intro s h; simp [iter] at h
      | succ k ihk =>
        intro s h ρ D1 a w hD hdef hS hτ hK
        rw [roundsIn_succ]
        rcases andThen_iff.1 h with ⟨s1, h1, h2⟩ | ⟨h1, hne⟩
        · refine ih mx hx ro hro s .normal s1 h1 ρ D1 a w hD hdef hS hτ _ fun ρ1 D2 a1 w1 k1 k2 k3 k4 k5 k6 => ?_
          refine ihk s1 h2 ρ1 D2 a1 w1 k5 k4 k2 k3 fun ρ2 D3 a2 w2 q1 q2 q3 q4 q5 q6 => ?_
          exact hK ρ2 D3 a2 w2 (k1.trans q1 (exec_grow hC.grow _ _ _ _ _ h1).1) q2 q3 q4 q5 fun hn => (q6 hn).trans (k6 hn)
        · refine ih mx hx ro hro s e s' h1 ρ D1 a w hD hdef hS hτ _ fun ρ1 D2 a1 w1 k1 k2 k3 k4 k5 k6 => ?_
          have := hK ρ1 D2 a1 w1 k1 k2 k3 k4 k5 k6
          cases e with
          | normal => exact absurd rfl hne
          | exit i => exact this
          | ret => exact this
    exact key fuel s h ρ D1 a w hD hdef hS hτ hK
  | scope x ih =>
    intro m hcm ro hro s e s' h ρ D1 a w hD hdef hS hτ Q hK
    refine wpIn_scope (ih m hcm ro hro s e s' h ρ D1 a w hD hdef hS hτ _ fun ρ1 D2 a1 w1 k1 k2 k3 k4 k5 k6 => ?_)
    have := hK ρ1 D2 a1 w1 k1 k2 k3 k4 k5 k6
    cases e <;> exact this
  | rangeFunc f ps asg body _ _ =>
    intro m hcm ro hro s e s' h ρ D1 a w hD hdef hS hτ Q hK
    simp only [comp] at hcm
    split at hcm
    case h_2 => cases hcm
    rename_i masg mbody hasg hbody
    split at hcm
    case isFalse => cases hcm
    rename_i hc
    cases hcm
    simp only [Bool.and_eq_true] at hc
    obtain ⟨⟨hc1, hc2⟩, hc3⟩ := hc
    have hro : ro = none := hro.resolve_right (by simp [noR])
    subst hro
    simp only [exec] at h
    split at h
    case h_2 => cases h
    rename_i t fi ca ht
    cases hr : call t (fi ++ [.yld s.H.length] ++ ca) (s.H ++ [.lp s.τ ps.toList masg mbody .ready]) with
    | none => rw [hr] at h; simp [afterRange] at h
    | some r =>
      obtain ⟨v, H'⟩ := r
      rw [hr] at h
      have hf := ev_ok hτ f
      cases hev : ev s.τ (cX f) <;> rw [hev] at ht <;> simp only [tgt] at ht <;> (try (cases ht; done))
      rename_i g fi' ca'
      cases ht
      rw [hev] at hf
      generalize hfv : a.eval f = fv at hf
      cases hf with
      | @fn _ _ _ a' b' ha hb h1 h2 =>
      refine wpIn_rangeFunc fun fid _ => ?_
      have hS1 := dfr_alloc hS
      obtain ⟨W, hW⟩ : ∃ W, W = ((w.alloc (.deferred (some []))).alloc (.loop { state := .ready, pending := none, fn := fid, tmps := a.tmps, params := ps, assign := asg, body := body, defers := w.heap.size })) := ⟨_, rfl⟩
      have hlo : Sim P B0 w0 (ext ρ s.H.length (newLoc (w.alloc (.deferred (some []))))) (s.H ++ [.lp s.τ ps.toList masg mbody .ready]) (w.heap.size :: (D1 ++ D))
          W := by
        subst hW
        refine hS1.new _ _ _ rfl fun _ => ⟨_, nt, World.alloc_heap_new _ _, hS1.sizeLe, hτ.mono (le_ext (hS.out _ (Nat.le_refl _)) _), rfl, fun p hp => ?_, hasg, hbody, hc1, hc2, rfl, rfl⟩
        have := List.all_eq_true.1 hc3 p hp
        simpa using this
      obtain ⟨hent, hcall⟩ := hC.f hr
      have hent' : ∀ (args : Array Value) (w : World), (callFunc g args).run P w = .ok (.enter g args) w := hent
      have hyl : R (ext ρ s.H.length (newLoc (w.alloc (.deferred (some []))))) (.yld s.H.length) (.func (.yield (w.heap.size + 1)) #[] #[]) := by
        have := @R.yld (ext ρ s.H.length (newLoc (w.alloc (.deferred (some []))))) s.H.length (newLoc (w.alloc (.deferred (some [])))) (by simp [ext])
        simpa [newLoc, World.size_alloc] using this
      have hle : RLe ρ (ext ρ s.H.length (newLoc (w.alloc (.deferred (some []))))) := le_ext (hS.out _ (Nat.le_refl _)) _
      have hRL : RL (ext ρ s.H.length (newLoc (w.alloc (.deferred (some []))))) (fi ++ [.yld s.H.length] ++ ca) (a' ++ #[Value.func (.yield (w.heap.size + 1)) #[] #[]] ++ b').toList := by
        have := RL.append (RL.append (RL.mono hle (l := fi) (l' := a'.toList) ⟨ha, h1⟩) (RL.cons hyl (RL.nil _))) (RL.mono hle (l := ca) (l' := b'.toList) ⟨hb, h2⟩)
        simpa using this
      have hD' : (w.heap.size :: (D1 ++ D)).Nodup := List.nodup_cons.2 ⟨dfr_fresh hS, hD⟩
      refine ⟨w.heap.size + 1, [mark w.heap.size], W, { target := .fn (.func g) b', args := a' ++ #[Value.func (.yield (w.heap.size + 1)) #[] #[]] }, W, g, a' ++ #[Value.func (.yield (w.heap.size + 1)) #[] #[]] ++ b', W, by rw [hW]; exact run_enterLoop_outer _ _ _ _ _, ?_, fun _ _ => trivial, ?_, fun h => by simp at h, (hcall hD' hlo hRL none _).mono fun en w3 hp => ?_⟩
      · have hce : (#[Operand.const (.func (.yield (w.heap.size + 1)) #[] #[])]).map a.eval = #[Value.func (.yield (w.heap.size + 1)) #[] #[]] := by simp [Act.eval]
        simp only [resolve, rangeCall, hfv, Deferred.ofValue, hce]
        rfl
      · simp only [invoke]
        exact hent' _ _
      · obtain ⟨v', rfl, ρ', hR, hag, hS3⟩ := hp
        have hN : ρ' s.H.length = some (newLoc (w.alloc (.deferred (some [])))) := by
          rw [hag s.H.length (by simp)]; simp [ext]
        have hLb : (newLoc (w.alloc (.deferred (some [])))).blk = w.heap.size + 1 := by simp [newLoc, World.size_alloc]
        have hag2 : Agree s.H.length ρ ρ' := fun k hk => by
          rw [hag k (by simp; omega)]
          unfold ext; rw [if_neg (by omega)]
        have hfin : ∀ {τ1 : Nat → V} {ps1 : List Nat} {asg1 body1 : MC} {st : LS}, H'[s.H.length]? = some (.lp τ1 ps1 asg1 body1 st) → st ≠ .busy → ∃ (lo : Loop) (W4 : World), LSOk st lo ∧
            (Instr.endLoop (w.heap.size + 1)).run P w3 = .ok lo.pending W4 ∧
            Sim P B0 w0 ρ' (H'.set s.H.length .dead) ((w.heap.size :: D1) ++ D) W4 := by
          intro τ1 ps1 asg1 body1 st hk hst
          obtain ⟨lo, nt1, l1, l2, l3, l4, l5, l6, l7, l8, l9, l10⟩ := hS3.loop hk hN
          rw [hLb] at l1
          refine ⟨lo, _, l10, run_endLoop l1 ?_, ?_⟩
          · cases st with
            | ready => have := l10.1; rw [this]; simp
            | busy => exact absurd rfl hst
            | done e => have := l10.1; rw [this]; simp
          · have := hS3.putLoop (b' := .dead) hk rfl hN (lo := lo) (lo' := { lo with state := .exhausted }) (by rw [hLb]; exact l1) (fun h => by simp [Blk.live] at h)
            rw [hLb] at this
            exact this
        have hK' : ∀ (e1 : Ex) (w4 : World), e1 = e → s' = ⟨s.τ, H'.set s.H.length .dead⟩ → Sim P B0 w0 ρ' (H'.set s.H.length .dead) ((w.heap.size :: D1) ++ D) w4 → Q e1.toE { a with defers := [mark w.heap.size] ++ a.defers } w4 := by
          intro e1 w4 he hs4 hS4
          subst he; subst hs4
          exact hK ρ' (w.heap.size :: D1) _ w4 hag2 hS4 (hτ.mono (hS.le hag2)) (by simp [hdef]) hD' (fun h => by simp [noR] at h)
        simp only [afterRange] at h
        split at h
        · rename_i hk
          cases h
          obtain ⟨lo, W4, l1, l2, l3⟩ := hfin hk (by simp)
          refine ⟨_, _, l2, ?_⟩
          rw [l1.2]
          exact hK' .normal _ rfl rfl l3
        · rename_i e1 hk
          cases h
          obtain ⟨lo, W4, l1, l2, l3⟩ := hfin hk (by simp)
          refine ⟨_, _, l2, ?_⟩
          obtain ⟨l4, l5, l6⟩ := l1
          rw [l5]
          cases e with
          | normal => exact absurd rfl l6
          | exit i => exact wpIn_exit (hK' (.exit i) _ rfl rfl l3)
          | ret => exact wpIn_ret (hK' .ret _ rfl rfl l3)
        · cases h
end Go.Ar
