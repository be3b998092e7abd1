/- The abstract interpreter without rounds: the limit of the runs by rounds, and its equations. -/
import Derived.Test.YtpojdgeginigjaaAr1
set_option linter.unusedSimpArgs false
set_option linter.unusedVariables false
namespace Go.Ar

def LeC (c c' : CallF) : Prop := ∀ t a H r, c t a H = some r → c' t a H = some r

section mono
variable {c c' : CallF} (hc : LeC c c')
include hc

theorem aop_mono (τ : Nat → V) (H : Heap) (i : I) (r : V × Heap) (h : aop c τ H i = some r) : aop c' τ H i = some r := by
  cases i with
  | call f args =>
    simp only [aop] at h ⊢
    cases hf : ev τ f <;> simp only [hf] at h ⊢ <;> first | exact hc _ _ _ _ h | exact h
  | _ => exact h

theorem ins_mono (x : Ins) (s s' : St) (h : ins c x s = some s') : ins c' x s = some s' := by
  unfold ins at h ⊢
  cases hw : wanted s.τ x.g with
  | none => simp [hw] at h
  | some b =>
    cases b with
    | false => simpa [hw] using h
    | true =>
      simp only [hw] at h ⊢
      cases ha : aop c s.τ s.H x.i with
      | none => simp [ha] at h
      | some r => rw [aop_mono hc _ _ _ _ ha]; rwa [ha] at h

theorem insL_mono : ∀ (l : List Ins) (s s' : St), insL c l s = some s' → insL c' l s = some s'
  | [], _, _, h => h
  | x :: xs, s, s', h => by
    simp only [insL] at h ⊢
    cases hi : ins c x s with
    | none => simp [hi] at h
    | some s1 => rw [ins_mono hc _ _ _ hi]; rw [hi] at h; exact insL_mono xs s1 s' h

omit hc in
theorem pcall_mono (hc : LeC c c') (hide : List Nat) : LeC (pcall c hide) (pcall c' hide) := by
  intro t a H r h
  unfold pcall at h ⊢
  cases hx : c t a (prot hide H) with
  | none => simp [hx] at h
  | some q => rw [hc _ _ _ _ hx]; rwa [hx] at h

theorem dins_mono (N : Nat) (d : DM × Ins) (s s' : St) (h : dins c N d s = some s') : dins c' N d s = some s' := by
  unfold dins at h ⊢
  cases hd : d.1 with
  | plain => simp only [hd] at h ⊢; exact ins_mono hc _ _ _ h
  | hole j => simpa only [hd] using h
  | pcall hide => simp only [hd] at h ⊢; exact ins_mono (pcall_mono hc _) _ _ _ h

theorem dinsL_mono (N : Nat) : ∀ (l : List (DM × Ins)) (s s' : St), dinsL c N l s = some s' → dinsL c' N l s = some s'
  | [], _, _, h => h
  | x :: xs, s, s', h => by
    simp only [dinsL] at h ⊢
    cases hi : dins c N x s with
    | none => simp [hi] at h
    | some s1 => rw [dins_mono hc N _ _ _ hi]; rw [hi] at h; exact dinsL_mono N xs s1 s' h
end mono

theorem andThen_mono {r r' : Out} {f f' : St → Out} (hr : ∀ x, r = some x → r' = some x) (hf : ∀ s x, f s = some x → f' s = some x) (x : Ex × St)
    (h : andThen r f = some x) : andThen r' f' = some x := by
  unfold andThen at h ⊢
  split at h
  · rw [hr _ rfl]; exact hf _ _ h
  · rw [hr _ rfl]; exact h
  · rw [hr _ rfl]; exact h
  · cases h

theorem unblk_mono {r r' : Out} {id : Nat} (hr : ∀ x, r = some x → r' = some x) (x : Ex × St) (h : unblk id r = some x) : unblk id r' = some x := by
  cases r with
  | none => simp [unblk] at h
  | some y => rw [hr _ rfl]; exact h

theorem iter_mono {f f' : St → Out} (hf : ∀ s x, f s = some x → f' s = some x) : ∀ (n m : Nat) (s : St) (x : Ex × St), n ≤ m → iter n f s = some x → iter m f' s = some x
  | 0, _, _, _, _, h => by simp [iter] at h
  | n + 1, 0, _, _, hm, _ => by omega
  | n + 1, m + 1, s, x, hm, h => andThen_mono (hf s) (fun s' y => iter_mono hf n m s' y (by omega)) x h

theorem exec_mono {c c' : CallF} (hc : LeC c c') {n m : Nat} (hn : n ≤ m) : ∀ (a : MC) (s : St) (x : Ex × St), exec c n a s = some x → exec c' m a s = some x
  | .skip, s, x, h => h
  | .reg ops, s, x, h => by
    simp only [exec, Option.map_eq_some_iff] at h ⊢
    obtain ⟨s1, h1, h2⟩ := h
    exact ⟨s1, insL_mono hc _ _ _ h1, h2⟩
  | .dreg nh ops chk, s, x, h => by
    simp only [exec] at h ⊢
    cases hd : dinsL c s.H.length ops ⟨s.τ, s.H ++ List.replicate nh .dead⟩ with
    | none => simp [hd, afterDraw] at h
    | some s1 => rw [dinsL_mono hc _ _ _ _ hd]; rwa [hd] at h
  | .seq a b, s, x, h => andThen_mono (exec_mono hc hn a s) (exec_mono hc hn b) x h
  | .cond k a b, s, x, h => by
    simp only [exec] at h ⊢
    cases hk : ev s.τ k <;> simp only [hk] at h ⊢ <;> try exact h
    rename_i t
    cases t
    · exact exec_mono hc hn b s x h
    · exact exec_mono hc hn a s x h
  | .block id a, s, x, h => unblk_mono (exec_mono hc hn a s) x h
  | .loop a, s, x, h => iter_mono (exec_mono hc hn a) n m s x hn h
  | .exit _, _, _, h => h
  | .ret, _, _, h => h
  | .rangef f ps asg body, s, x, h => by
    simp only [exec] at h ⊢
    cases ht : tgt (ev s.τ f) with
    | none => simp [ht] at h
    | some q =>
      obtain ⟨t, a, b⟩ := q
      simp only [ht] at h ⊢
      cases hx : c t (a ++ [.yld s.H.length] ++ b) (s.H ++ [.lp s.τ ps asg body .ready]) with
      | none => rw [hx] at h; simp [afterRange] at h
      | some r => rw [hc _ _ _ _ hx]; rwa [hx] at h

theorem finish_mono {fc : FC} {r r' : Out} (hr : ∀ x, r = some x → r' = some x) (x : V × Heap) (h : finish fc r = some x) : finish fc r' = some x := by
  cases r with
  | none => simp [finish] at h
  | some y => rw [hr _ rfl]; exact h
theorem endRound_mono {k : Nat} {r r' : Out} (hr : ∀ x, r = some x → r' = some x) (x : V × Heap) (h : endRound k r = some x) : endRound k r' = some x := by
  cases r with
  | none => simp [endRound] at h
  | some y => rw [hr _ rfl]; exact h
theorem aBegin_mono {k : Nat} {r r' : Out} {f f' : St → Out} (hr : ∀ x, r = some x → r' = some x) (hf : ∀ s x, f s = some x → f' s = some x) (x : Ex × St)
    (h : aBegin k r f = some x) : aBegin k r' f' = some x := by
  unfold aBegin at h ⊢
  split at h
  · rw [hr _ rfl]
    split at h
    · rename_i hb; simp only [hb]; exact hf _ _ h
    · cases h
  · cases h

theorem callN_succ (E : Env) : ∀ n, LeC (callN E n) (callN E (n + 1))
  | 0 => fun t a H r h => by simp [callN] at h
  | n + 1 => fun t a H r h => by
    have ih := callN_succ E n
    have hx : ∀ a s x, exec (callN E n) n a s = some x → exec (callN E (n + 1)) (n + 1) a s = some x := exec_mono ih (by omega)
    cases t with
    | f g =>
      simp only [callN] at h
      show (match E.S g with
        | some h => h a H
        | none => match E.C g with
          | some fc => if a.length = fc.nargs then finish fc (exec (callN E (n + 1)) (n + 1) fc.body ⟨args0 a, H⟩) else none
          | none => none) = some r
      split
      · rename_i g' hg; simp only [hg] at h; exact h
      · rename_i hg; simp only [hg] at h
        split
        · rename_i fc hfc; simp only [hfc] at h
          split
          · rename_i hl; rw [if_pos hl] at h; exact finish_mono (hx _ _) _ h
          · rename_i hl; rw [if_neg hl] at h; exact h
        · rename_i hfc; simp only [hfc] at h; cases h
    | y k =>
      simp only [callN] at h
      show (match H[k]? with
        | some (.lp τ ps asg body .ready) => if a.length = ps.length then
            endRound k (aBegin k (exec (callN E (n + 1)) (n + 1) asg ⟨setps τ ps a, H⟩) (exec (callN E (n + 1)) (n + 1) body)) else none
        | _ => none) = some r
      split
      · rename_i hg; simp only [hg] at h
        split
        · rename_i hl; rw [if_pos hl] at h; exact endRound_mono (aBegin_mono (hx _ _) (hx _)) _ h
        · rename_i hl; rw [if_neg hl] at h; cases h
      · split at h
        · rename_i h1 _ _ _ _ _ h2; exact absurd h2 (h1 _ _ _ _)
        · cases h

theorem callN_le (E : Env) {n m : Nat} (h : n ≤ m) : LeC (callN E n) (callN E m) := by
  induction h with
  | refl => exact fun _ _ _ _ h => h
  | step _ ih => exact fun t a H r hr => callN_succ E _ t a H r (ih t a H r hr)

/-! ### The limit -/
open Classical in
noncomputable def limO {α : Type} (f : Nat → Option α) : Option α := if h : ∃ r, ∃ n, f n = some r then some (Classical.choose h) else none

theorem limO_iff {α : Type} {f : Nat → Option α} (hm : ∀ n m, n ≤ m → ∀ r, f n = some r → f m = some r) (r : α) : limO f = some r ↔ ∃ n, f n = some r := by
  unfold limO
  constructor
  · intro h
    split at h
    · rename_i hx
      have := Classical.choose_spec hx
      cases h
      exact this
    · cases h
  · rintro ⟨n, hn⟩
    have hx : ∃ r, ∃ n, f n = some r := ⟨r, n, hn⟩
    rw [dif_pos hx]
    obtain ⟨m, hm'⟩ := Classical.choose_spec hx
    have h1 := hm n (max n m) (by omega) _ hn
    have h2 := hm m (max n m) (by omega) _ hm'
    rw [h1] at h2
    exact h2.symm

noncomputable def callL (E : Env) : CallF := fun t a H => limO fun n => callN E n t a H
noncomputable def execL (E : Env) (c : MC) (s : St) : Out := limO fun n => exec (callN E n) n c s

theorem callL_iff {E : Env} {t : Tgt} {a : List V} {H : Heap} {r : V × Heap} : callL E t a H = some r ↔ ∃ n, callN E n t a H = some r :=
  limO_iff (fun _ _ h _ => callN_le E h t a H _) r
theorem execL_iff {E : Env} {c : MC} {s : St} {x : Ex × St} : execL E c s = some x ↔ ∃ n, exec (callN E n) n c s = some x :=
  limO_iff (fun _ _ h _ => exec_mono (callN_le E h) h c s _) x
theorem callN_leL (E : Env) (n : Nat) : LeC (callN E n) (callL E) := fun _ _ _ _ h => callL_iff.2 ⟨n, h⟩

theorem ext_iff {α : Type} {x y : Option α} (h : ∀ r, x = some r ↔ y = some r) : x = y := by
  cases x with
  | none => cases y with
    | none => rfl
    | some b => exact ((h b).2 rfl)
  | some a => exact ((h a).1 rfl).symm

section limits
variable {E : Env}

theorem aop_lim {τ : Nat → V} {H : Heap} {i : I} {r : V × Heap} : aop (callL E) τ H i = some r ↔ ∃ n, aop (callN E n) τ H i = some r := by
  constructor
  · intro h
    cases i with
    | call f args =>
      simp only [aop] at h ⊢
      cases hf : ev τ f <;> simp only [hf] at h ⊢ <;> first | exact callL_iff.1 h | (cases h)
    | _ => exact ⟨0, h⟩
  · rintro ⟨n, h⟩; exact aop_mono (callN_leL E n) _ _ _ _ h

theorem aop_plim {hide : List Nat} {τ : Nat → V} {H : Heap} {i : I} {r : V × Heap} : aop (pcall (callL E) hide) τ H i = some r ↔ ∃ n, aop (pcall (callN E n) hide) τ H i = some r := by
  constructor
  · intro h
    cases i with
    | call f args =>
      simp only [aop] at h ⊢
      cases hf : ev τ f <;> simp only [hf] at h ⊢ <;> try (cases h; done)
      all_goals
        simp only [pcall, Option.map_eq_some_iff] at h ⊢
        obtain ⟨q, h1, h2⟩ := h
        obtain ⟨n, h1⟩ := callL_iff.1 h1
        exact ⟨n, q, h1, h2⟩
    | _ => exact ⟨0, h⟩
  · rintro ⟨n, h⟩; exact aop_mono (pcall_mono (callN_leL E n) _) _ _ _ _ h

theorem ins_lim {x : Ins} {s s' : St} : ins (callL E) x s = some s' ↔ ∃ n, ins (callN E n) x s = some s' := by
  constructor
  · intro h
    unfold ins at h ⊢
    cases hw : wanted s.τ x.g with
    | none => simp [hw] at h
    | some b =>
      cases b with
      | false => exact ⟨0, by simpa [hw] using h⟩
      | true =>
        simp only [hw, Option.map_eq_some_iff] at h ⊢
        obtain ⟨q, h1, h2⟩ := h
        obtain ⟨n, h1⟩ := aop_lim.1 h1
        exact ⟨n, q, h1, h2⟩
  · rintro ⟨n, h⟩; exact ins_mono (callN_leL E n) _ _ _ h
theorem ins_plim {hide : List Nat} {x : Ins} {s s' : St} : ins (pcall (callL E) hide) x s = some s' ↔ ∃ n, ins (pcall (callN E n) hide) x s = some s' := by
  constructor
  · intro h
    unfold ins at h ⊢
    cases hw : wanted s.τ x.g with
    | none => simp [hw] at h
    | some b =>
      cases b with
      | false => exact ⟨0, by simpa [hw] using h⟩
      | true =>
        simp only [hw, Option.map_eq_some_iff] at h ⊢
        obtain ⟨q, h1, h2⟩ := h
        obtain ⟨n, h1⟩ := aop_plim.1 h1
        exact ⟨n, q, h1, h2⟩
  · rintro ⟨n, h⟩; exact ins_mono (pcall_mono (callN_leL E n) _) _ _ _ h

theorem insL_lim : ∀ {l : List Ins} {s s' : St}, insL (callL E) l s = some s' ↔ ∃ n, insL (callN E n) l s = some s'
  | [], s, s' => ⟨fun h => ⟨0, h⟩, fun ⟨_, h⟩ => h⟩
  | x :: xs, s, s' => by
    constructor
    · intro h
      simp only [insL, Option.bind_eq_some_iff] at h ⊢
      obtain ⟨s1, h1, h2⟩ := h
      obtain ⟨n, h1⟩ := ins_lim.1 h1
      obtain ⟨m, h2⟩ := insL_lim.1 h2
      exact ⟨max n m, s1, ins_mono (callN_le E (by omega)) _ _ _ h1, insL_mono (callN_le E (by omega)) _ _ _ h2⟩
    · rintro ⟨n, h⟩; exact insL_mono (callN_leL E n) _ _ _ h

theorem dins_lim {N : Nat} {d : DM × Ins} {s s' : St} : dins (callL E) N d s = some s' ↔ ∃ n, dins (callN E n) N d s = some s' := by
  constructor
  · intro h
    unfold dins at h ⊢
    cases hd : d.1 with
    | plain => simp only [hd] at h ⊢; exact ins_lim.1 h
    | hole j => exact ⟨0, by simpa only [hd] using h⟩
    | pcall hide => simp only [hd] at h ⊢; exact ins_plim.1 h
  · rintro ⟨n, h⟩; exact dins_mono (callN_leL E n) _ _ _ _ h
theorem dinsL_lim {N : Nat} : ∀ {l : List (DM × Ins)} {s s' : St}, dinsL (callL E) N l s = some s' ↔ ∃ n, dinsL (callN E n) N l s = some s'
  | [], s, s' => ⟨fun h => ⟨0, h⟩, fun ⟨_, h⟩ => h⟩
  | x :: xs, s, s' => by
    constructor
    · intro h
      simp only [dinsL, Option.bind_eq_some_iff] at h ⊢
      obtain ⟨s1, h1, h2⟩ := h
      obtain ⟨n, h1⟩ := dins_lim.1 h1
      obtain ⟨m, h2⟩ := dinsL_lim.1 h2
      exact ⟨max n m, s1, dins_mono (callN_le E (by omega)) _ _ _ _ h1, dinsL_mono (callN_le E (by omega)) _ _ _ _ h2⟩
    · rintro ⟨n, h⟩; exact dinsL_mono (callN_leL E n) _ _ _ _ h

theorem andThen_iff {r : Out} {f : St → Out} {x : Ex × St} : andThen r f = some x ↔ (∃ s, r = some (.normal, s) ∧ f s = some x) ∨ (r = some x ∧ x.1 ≠ .normal) := by
  unfold andThen
  split
  · constructor
    · exact fun h => .inl ⟨_, rfl, h⟩
    · rintro (⟨s, h, h'⟩ | ⟨h, h'⟩)
      · cases h; exact h'
      · cases h; exact absurd rfl h'
  · constructor
    · intro h; cases h; exact .inr ⟨rfl, by simp⟩
    · rintro (⟨s, h, h'⟩ | ⟨h, h'⟩)
      · cases h
      · exact h
  · constructor
    · intro h; cases h; exact .inr ⟨rfl, by simp⟩
    · rintro (⟨s, h, h'⟩ | ⟨h, h'⟩)
      · cases h
      · exact h
  · simp

theorem execL_skip {s : St} : execL E .skip s = some (.normal, s) := execL_iff.2 ⟨0, rfl⟩
theorem execL_exit {id : Nat} {s : St} : execL E (.exit id) s = some (.exit id, s) := execL_iff.2 ⟨0, rfl⟩
theorem execL_ret {s : St} : execL E .ret s = some (.ret, s) := execL_iff.2 ⟨0, rfl⟩

theorem execL_reg {ops : List Ins} {s : St} : execL E (.reg ops) s = (insL (callL E) ops s).map fun s' => (Ex.normal, s') := by
  refine ext_iff fun r => ?_
  rw [execL_iff]
  simp only [exec, Option.map_eq_some_iff, insL_lim]
  constructor
  · rintro ⟨n, s1, h1, h2⟩; exact ⟨s1, ⟨n, h1⟩, h2⟩
  · rintro ⟨s1, ⟨n, h1⟩, h2⟩; exact ⟨n, s1, h1, h2⟩

theorem execL_dreg {nh : Nat} {ops : List (DM × Ins)} {chk : List Chk} {s : St} :
    execL E (.dreg nh ops chk) s = afterDraw s.H.length nh chk (dinsL (callL E) s.H.length ops ⟨s.τ, s.H ++ List.replicate nh .dead⟩) := by
  refine ext_iff fun r => ?_
  rw [execL_iff]
  simp only [exec]
  have key : ∀ (o : Option St), afterDraw s.H.length nh chk o = some r ↔ ∃ s1, o = some s1 ∧ afterDraw s.H.length nh chk (some s1) = some r := by
    intro o; cases o <;> simp [afterDraw]
  simp only [key (dinsL _ _ _ _), dinsL_lim]
  constructor
  · rintro ⟨n, s1, h1, h2⟩; exact ⟨s1, ⟨n, h1⟩, h2⟩
  · rintro ⟨s1, ⟨n, h1⟩, h2⟩; exact ⟨n, s1, h1, h2⟩

theorem exec_up {n m : Nat} (h : n ≤ m) {a : MC} {s : St} {x : Ex × St} (hx : exec (callN E n) n a s = some x) : exec (callN E m) m a s = some x := exec_mono (callN_le E h) h a s x hx

theorem execL_seq {a b : MC} {s : St} : execL E (.seq a b) s = andThen (execL E a s) (execL E b) := by
  refine ext_iff fun r => ?_
  rw [execL_iff, andThen_iff]
  simp only [exec, andThen_iff, execL_iff]
  constructor
  · rintro ⟨n, (⟨s1, h1, h2⟩ | ⟨h1, h2⟩)⟩
    · exact .inl ⟨s1, ⟨n, h1⟩, ⟨n, h2⟩⟩
    · exact .inr ⟨⟨n, h1⟩, h2⟩
  · rintro (⟨s1, ⟨n, h1⟩, ⟨m, h2⟩⟩ | ⟨⟨n, h1⟩, h2⟩)
    · exact ⟨max n m, .inl ⟨s1, exec_up (by omega) h1, exec_up (by omega) h2⟩⟩
    · exact ⟨n, .inr ⟨h1, h2⟩⟩

theorem execL_cond {c : X} {a b : MC} {s : St} {t : Bool} (hc : ev s.τ c = .bool t) : execL E (.cond c a b) s = cond t (execL E a s) (execL E b s) := by
  refine ext_iff fun r => ?_
  rw [execL_iff]
  cases t <;> simp only [exec, hc, cond_true, cond_false] <;> exact execL_iff.symm

theorem execL_block {id : Nat} {a : MC} {s : St} : execL E (.block id a) s = unblk id (execL E a s) := by
  refine ext_iff fun r => ?_
  rw [execL_iff]
  simp only [exec]
  have key : ∀ (o : Out), unblk id o = some r ↔ ∃ x, o = some x ∧ unblk id (some x) = some r := by
    intro o; cases o <;> simp [unblk]
  simp only [key (exec _ _ _ _), key (execL _ _ _), execL_iff]
  constructor
  · rintro ⟨n, x, h1, h2⟩; exact ⟨x, ⟨n, h1⟩, h2⟩
  · rintro ⟨x, ⟨n, h1⟩, h2⟩; exact ⟨n, x, h1, h2⟩

theorem execL_loop {a : MC} {s : St} : execL E (.loop a) s = andThen (execL E a s) (execL E (.loop a)) := by
  refine ext_iff fun r => ?_
  rw [execL_iff, andThen_iff]
  simp only [execL_iff, exec]
  constructor
  · rintro ⟨n, h⟩
    cases n with
    | zero => simp [iter] at h
    | succ n =>
      simp only [iter, andThen_iff] at h
      rcases h with ⟨s1, h1, h2⟩ | ⟨h1, h2⟩
      · exact .inl ⟨s1, ⟨_, h1⟩, ⟨n + 1, iter_mono (fun _ _ h => h) n (n + 1) _ _ (by omega) h2⟩⟩
      · exact .inr ⟨⟨_, h1⟩, h2⟩
  · rintro (⟨s1, ⟨n, h1⟩, ⟨m, h2⟩⟩ | ⟨⟨n, h1⟩, h2⟩)
    · refine ⟨max n m + 1, ?_⟩
      simp only [iter, andThen_iff]
      exact .inl ⟨s1, exec_up (by omega) h1, iter_mono (exec_mono (callN_le E (by omega)) (by omega) a) _ _ _ _ (by omega) h2⟩
    · refine ⟨n + 1, ?_⟩
      simp only [iter, andThen_iff]
      exact .inr ⟨exec_up (by omega) h1, h2⟩

theorem execL_rangef {f : X} {ps : List Nat} {asg body : MC} {s : St} {t : Tgt} {a b : List V} (hf : tgt (ev s.τ f) = some (t, a, b)) :
    execL E (.rangef f ps asg body) s = afterRange s (callL E t (a ++ [.yld s.H.length] ++ b) (s.H ++ [.lp s.τ ps asg body .ready])) := by
  refine ext_iff fun r => ?_
  rw [execL_iff]
  simp only [exec, hf]
  have key : ∀ (o : Option (V × Heap)), afterRange s o = some r ↔ ∃ x, o = some x ∧ afterRange s (some x) = some r := by
    intro o; cases o <;> simp [afterRange]
  simp only [key (callN _ _ _ _ _), key (callL _ _ _ _), callL_iff]
  constructor
  · rintro ⟨n, x, h1, h2⟩; exact ⟨x, ⟨n, h1⟩, h2⟩
  · rintro ⟨x, ⟨n, h1⟩, h2⟩; exact ⟨n, x, h1, h2⟩

theorem finish_iff {fc : FC} {o : Out} {r : V × Heap} : finish fc o = some r ↔ ∃ x, o = some x ∧ finish fc (some x) = some r := by cases o <;> simp [finish]

theorem callL_f {g : Nat} {fc : FC} (hS : E.S g = none) (hC : E.C g = some fc) {args : List V} (hl : args.length = fc.nargs) {H : Heap} :
    callL E (.f g) args H = finish fc (execL E fc.body ⟨args0 args, H⟩) := by
  refine ext_iff fun r => ?_
  rw [callL_iff, finish_iff]
  simp only [execL_iff]
  constructor
  · rintro ⟨n, h⟩
    cases n with
    | zero => simp [callN] at h
    | succ n =>
      simp only [callN, hS, hC, if_pos hl] at h
      obtain ⟨x, h1, h2⟩ := finish_iff.1 h
      exact ⟨x, ⟨n, h1⟩, h2⟩
  · rintro ⟨x, ⟨n, h1⟩, h2⟩
    refine ⟨n + 1, ?_⟩
    simp only [callN, hS, hC, if_pos hl]
    exact finish_iff.2 ⟨x, h1, h2⟩

theorem callL_S {g : Nat} {h : List V → Heap → Option (V × Heap)} (hS : E.S g = some h) {args : List V} {H : Heap} : callL E (.f g) args H = h args H := by
  refine ext_iff fun r => ?_
  rw [callL_iff]
  constructor
  · rintro ⟨n, h'⟩
    cases n with
    | zero => simp [callN] at h'
    | succ n => simpa only [callN, hS] using h'
  · intro h'; exact ⟨1, by simpa only [callN, hS] using h'⟩

theorem aBegin_iff {k : Nat} {o : Out} {f : St → Out} {x : Ex × St} : aBegin k o f = some x ↔ ∃ s s1, o = some (.normal, s) ∧ beginRound k s = some s1 ∧ f s1 = some x := by
  unfold aBegin
  split
  · split
    · rename_i hb
      constructor
      · exact fun h => ⟨_, _, rfl, hb, h⟩
      · rintro ⟨s, s1, h1, h2, h3⟩; cases h1; rw [hb] at h2; cases h2; exact h3
    · rename_i hb
      constructor
      · intro h; cases h
      · rintro ⟨s, s1, h1, h2, h3⟩; cases h1; rw [hb] at h2; cases h2
  · rename_i hn
    constructor
    · intro h; cases h
    · rintro ⟨s, s1, h1, h2, h3⟩; exact absurd h1 (hn s)
theorem endRound_iff {k : Nat} {o : Out} {r : V × Heap} : endRound k o = some r ↔ ∃ x, o = some x ∧ endRound k (some x) = some r := by cases o <;> simp [endRound]

theorem callL_y {k : Nat} {H : Heap} {τ : Nat → V} {ps : List Nat} {asg body : MC} (hk : H[k]? = some (.lp τ ps asg body .ready)) {args : List V} (hl : args.length = ps.length) :
    callL E (.y k) args H = endRound k (aBegin k (execL E asg ⟨setps τ ps args, H⟩) (execL E body)) := by
  refine ext_iff fun r => ?_
  rw [callL_iff, endRound_iff]
  simp only [aBegin_iff, execL_iff]
  constructor
  · rintro ⟨n, h⟩
    cases n with
    | zero => simp [callN] at h
    | succ n =>
      simp only [callN, hk, if_pos hl] at h
      obtain ⟨x, h1, h2⟩ := endRound_iff.1 h
      obtain ⟨s, s1, h3, h4, h5⟩ := aBegin_iff.1 h1
      exact ⟨x, ⟨s, s1, ⟨n, h3⟩, h4, ⟨n, h5⟩⟩, h2⟩
  · rintro ⟨x, ⟨s, s1, ⟨n, h3⟩, h4, ⟨m, h5⟩⟩, h2⟩
    refine ⟨max n m + 1, ?_⟩
    simp only [callN, hk, if_pos hl]
    exact endRound_iff.2 ⟨x, aBegin_iff.2 ⟨s, s1, exec_up (by omega) h3, h4, exec_up (by omega) h5⟩, h2⟩
end limits
end Go.Ar
