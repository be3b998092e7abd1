/- What a piece of code comes to: rules. -/
import Derived.Test.YtpojdgeginigjaaAr24
set_option linter.unusedSimpArgs false
set_option linter.unusedVariables false
namespace Go.Ar
variable {E : Env}

def WP (E : Env) (m : MC) (s : St) (Q : Ex → St → Prop) : Prop := ∃ e s', execL E m s = some (e, s') ∧ Q e s'
def After (Q : Ex → St → Prop) (N : St → Prop) : Ex → St → Prop
  | .normal, s => N s
  | e, s => Q e s
def InBlk (id : Nat) (Q : Ex → St → Prop) : Ex → St → Prop
  | .exit i, s => if i = id then Q .normal s else Q (.exit i) s
  | e, s => Q e s

theorem WP.mono {m : MC} {s : St} {Q Q' : Ex → St → Prop} (h : WP E m s Q) (hq : ∀ e s, Q e s → Q' e s) : WP E m s Q' := let ⟨e, s', h1, h2⟩ := h; ⟨e, s', h1, hq _ _ h2⟩
theorem wa_gen {m : MC} {τ : Nat → V} {H : Heap} {Q : Ex → St → Prop} (F : (Nat → V) → Prop) (hF : F τ) (h : ∀ τ', F τ' → WP E m ⟨τ', H⟩ Q) : WP E m ⟨τ, H⟩ Q := h τ hF
theorem wa_skip {s : St} {Q : Ex → St → Prop} (h : Q .normal s) : WP E .skip s Q := ⟨_, _, execL_skip, h⟩
theorem wa_exit {id : Nat} {s : St} {Q : Ex → St → Prop} (h : Q (.exit id) s) : WP E (.exit id) s Q := ⟨_, _, execL_exit, h⟩
theorem wa_ret {s : St} {Q : Ex → St → Prop} (h : Q .ret s) : WP E .ret s Q := ⟨_, _, execL_ret, h⟩
theorem wa_reg {ops : List Ins} {s s' : St} {Q : Ex → St → Prop} (h1 : insL (callL E) ops s = some s') (h2 : Q .normal s') : WP E (.reg ops) s Q := ⟨_, s', by rw [execL_reg, h1]; rfl, h2⟩
theorem wa_regs {ops : List Ins} {s : St} {Q : Ex → St → Prop} (h : ∃ s', insL (callL E) ops s = some s' ∧ Q .normal s') : WP E (.reg ops) s Q := let ⟨s', h1, h2⟩ := h; wa_reg h1 h2
theorem wa_dreg {nh : Nat} {ops : List (DM × Ins)} {chk : List Chk} {s s' : St} {Q : Ex → St → Prop} (h1 : dinsL (callL E) s.H.length ops ⟨s.τ, s.H ++ List.replicate nh .dead⟩ = some s')
    (h2 : chk.all (Chk.ok s.H.length nh s'.τ) = true) (h3 : Q .normal s') : WP E (.dreg nh ops chk) s Q := ⟨_, s', by rw [execL_dreg, h1]; simp only [afterDraw, h2, if_true], h3⟩
theorem wa_seq {a b : MC} {s : St} {Q : Ex → St → Prop} (h : WP E a s (After Q fun s' => WP E b s' Q)) : WP E (.seq a b) s Q := by
  obtain ⟨e, s1, h1, h2⟩ := h
  cases e with
  | normal =>
    obtain ⟨e2, s2, h3, h4⟩ := h2
    exact ⟨e2, s2, by rw [execL_seq, h1]; exact h3, h4⟩
  | exit i => exact ⟨.exit i, s1, by rw [execL_seq, h1]; rfl, h2⟩
  | ret => exact ⟨.ret, s1, by rw [execL_seq, h1]; rfl, h2⟩
theorem wa_cond {c : X} {a b : MC} {s : St} {t : Bool} {Q : Ex → St → Prop} (hc : ev s.τ c = .bool t) (h1 : t = true → WP E a s Q) (h2 : t = false → WP E b s Q) : WP E (.cond c a b) s Q := by
  cases t with
  | true => obtain ⟨e, s', h3, h4⟩ := h1 rfl; exact ⟨e, s', by rw [execL_cond hc]; exact h3, h4⟩
  | false => obtain ⟨e, s', h3, h4⟩ := h2 rfl; exact ⟨e, s', by rw [execL_cond hc]; exact h3, h4⟩
theorem wa_block {id : Nat} {a : MC} {s : St} {Q : Ex → St → Prop} (h : WP E a s (InBlk id Q)) : WP E (.block id a) s Q := by
  obtain ⟨e, s1, h1, h2⟩ := h
  cases e with
  | normal => exact ⟨_, s1, by rw [execL_block, h1]; rfl, h2⟩
  | ret => exact ⟨_, s1, by rw [execL_block, h1]; rfl, h2⟩
  | exit i =>
    simp only [InBlk] at h2
    by_cases hi : i = id
    · rw [if_pos hi] at h2
      exact ⟨.normal, s1, by rw [execL_block, h1]; simp [unblk, hi], h2⟩
    · rw [if_neg hi] at h2
      exact ⟨.exit i, s1, by rw [execL_block, h1]; simp [unblk, hi], h2⟩
/-- A loop: an invariant, with how many rounds there may be left. -/
theorem wa_loop {a : MC} {Q : Ex → St → Prop} (I : Nat → St → Prop) (round : ∀ m s, I m s → WP E a s (After Q fun s' => ∃ m', m' < m ∧ I m' s')) : ∀ (m : Nat) (s : St), I m s → WP E (.loop a) s Q := by
  intro m
  induction m using Nat.strongRecOn with
  | _ m ih =>
    intro s h
    obtain ⟨e, s1, h1, h2⟩ := round m s h
    cases e with
    | normal =>
      obtain ⟨m', hm, hI⟩ := h2
      obtain ⟨e2, s2, h3, h4⟩ := ih m' hm s1 hI
      exact ⟨e2, s2, by rw [execL_loop, h1]; exact h3, h4⟩
    | exit i => exact ⟨.exit i, s1, by rw [execL_loop, h1]; rfl, h2⟩
    | ret => exact ⟨.ret, s1, by rw [execL_loop, h1]; rfl, h2⟩

theorem wa_rangef {f : X} {ps : List Nat} {asg body : MC} {s : St} {Q : Ex → St → Prop} {g : Nat} {a b : List V} (hf : ev s.τ f = .fn g a b)
    (h : ∃ v H', callL E (.f g) (a ++ [.yld s.H.length] ++ b) (s.H ++ [.lp s.τ ps asg body .ready]) = some (v, H') ∧
      ∃ τ1 ps1 asg1 body1 st, H'[s.H.length]? = some (.lp τ1 ps1 asg1 body1 st) ∧ (match st with | .ready => Q .normal ⟨s.τ, H'.set s.H.length .dead⟩ | .done e => Q e ⟨s.τ, H'.set s.H.length .dead⟩ | .busy => False)) :
    WP E (.rangef f ps asg body) s Q := by
  obtain ⟨v, H', h1, τ1, ps1, asg1, body1, st, h2, h3⟩ := h
  have hr := execL_rangef (E := E) (f := f) (ps := ps) (asg := asg) (body := body) (s := s) (t := .f g) (a := a) (b := b) (by rw [hf]; rfl)
  rw [h1] at hr
  cases st with
  | ready => exact ⟨.normal, _, by rw [hr]; simp only [afterRange, h2], h3⟩
  | done e => exact ⟨e, _, by rw [hr]; simp only [afterRange, h2], h3⟩
  | busy => exact h3.elim
/-- One round. -/
theorem wa_round {k : Nat} {H : Heap} {τ : Nat → V} {ps : List Nat} {asg body : MC} {args : List V} {R : Bool → Heap → Prop} (hk : H[k]? = some (.lp τ ps asg body .ready)) (hl : args.length = ps.length)
    (h : WP E asg ⟨setps τ ps args, H⟩ fun e s => e = .normal ∧ ∃ τ1 ps1 asg1 body1, s.H[k]? = some (.lp τ1 ps1 asg1 body1 .ready) ∧
      WP E body ⟨s.τ, s.H.set k (.lp τ1 ps1 asg1 body1 .busy)⟩ fun e s2 => ∃ τ2 ps2 asg2 body2, s2.H[k]? = some (.lp τ2 ps2 asg2 body2 .busy) ∧
        R (decide (e = .normal)) (s2.H.set k (.lp τ2 ps2 asg2 body2 (if e = .normal then .ready else .done e)))) :
    ∃ b H', callL E (.y k) args H = some (.bool b, H') ∧ R b H' := by
  obtain ⟨e, s, h1, rfl, τ1, ps1, asg1, body1, h2, e2, s2, h3, τ2, ps2, asg2, body2, h4, h5⟩ := h
  refine ⟨_, _, ?_, h5⟩
  rw [callL_y hk hl, h1]
  simp only [aBegin, beginRound, h2]
  rw [h3]
  simp only [endRound, h4]

/-- What a function answers, out of its body. -/
theorem wa_finish {fc : FC} {s : St} {Q : V → Heap → Prop} (h : WP E fc.body s fun e s' => (∀ i, e ≠ .exit i) ∧ ∃ vs, resL s'.τ s'.H fc.res = some vs ∧ Q (pack vs) s'.H) : ∃ v H', finish fc (execL E fc.body s) = some (v, H') ∧ Q v H' := by
  obtain ⟨e, s', h1, h2, vs, h3, h4⟩ := h
  refine ⟨pack vs, s'.H, ?_, h4⟩
  rw [h1]
  cases e with
  | exit i => exact absurd rfl (h2 i)
  | normal => simp [finish, h3]
  | ret => simp [finish, h3]
end Go.Ar
