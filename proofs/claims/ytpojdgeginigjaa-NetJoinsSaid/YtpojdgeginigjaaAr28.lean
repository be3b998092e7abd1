/- More rules for walks: loops by a test; regions that draw their order, but lay nothing. -/
import Derived.Test.YtpojdgeginigjaaAr27
set_option linter.unusedSimpArgs false
set_option linter.unusedVariables false
namespace Go.Ar
variable {E : Env}

/-- A loop by a test: an invariant, with how many rounds there may be left. -/
theorem wa_while {pre post : List Ins} {c : Nat} {i1 i2 : Nat} {body : MC} {Q : Ex → St → Prop} (I : Nat → St → Prop) (m : Nat) {s : St} (h0 : I m s)
    (step : ∀ m s, I m s → ∃ s1 t, insL (callL E) pre s = some s1 ∧ s1.τ c = .bool t ∧
      (t = true → WP E body s1 (InBlk i2 (After (InBlk i1 Q) fun s2 => ∃ s3, insL (callL E) post s2 = some s3 ∧ ∃ m', m' < m ∧ I m' s3))) ∧ (t = false → Q .normal s1)) :
    WP E (.block i1 (.loop (.seq (.reg pre) (.seq (.cond (.t c) .skip (.exit i1)) (.seq (.block i2 body) (.reg post)))))) s Q := by
  refine wa_block (wa_loop I ?_ m s h0)
  intro m s hI
  obtain ⟨s1, t, h1, h2, h3, h4⟩ := step m s hI
  refine wa_sr ⟨s1, h1, ?_⟩
  refine wa_if (t := t) h2 (fun ht => ?_) (fun ht => ?_)
  · obtain ⟨ex, s2, h5, h6⟩ := wa_block (h3 ht)
    cases ex with
    | normal =>
      obtain ⟨s3, h7, h8⟩ := h6
      exact wa_seq ⟨.normal, s2, h5, wa_reg h7 h8⟩
    | exit j => exact wa_seq ⟨.exit j, s2, h5, h6⟩
    | ret => exact wa_seq ⟨.ret, s2, h5, h6⟩
  · refine wa_ex ?_
    simp only [After, InBlk, if_true]
    exact h4 ht

theorem dinsL_plain {call : CallF} {N : Nat} : ∀ {ops : List (DM × Ins)} {s : St}, (ops.all fun o => match o.1 with | .plain => true | _ => false) = true → dinsL call N ops s = insL call (ops.map (·.2)) s
  | [], s, _ => rfl
  | o :: ops, s, h => by
    simp only [List.all_cons, Bool.and_eq_true] at h
    obtain ⟨d, x⟩ := o
    cases d with
    | plain =>
      simp only [dinsL, List.map_cons, insL, dins]
      congr 1
      funext s'
      exact dinsL_plain h.2
    | hole j => simp at h
    | pcall l => simp at h
/-- A region that draws its order, and lays nothing new: as it stands. -/
theorem wa_dr {ops : List (DM × Ins)} {is : List Ins} {b : MC} {s : St} {Q : Ex → St → Prop} (hp : (ops.all fun o => match o.1 with | .plain => true | _ => false) = true) (hi : ops.map (·.2) = is)
    (h : ∃ s', insL (callL E) is s = some s' ∧ WP E b s' Q) : WP E (.seq (.dreg 0 ops []) b) s Q := by
  obtain ⟨s', h1, h2⟩ := h
  refine wa_seq (wa_dreg (s' := s') ?_ rfl h2)
  subst hi
  rw [dinsL_plain hp]
  simpa using h1

/-- A row laid anew: 'append' to one of no cells. -/
theorem appnew_ok {H : Heap} {sz by' m : Nat} {y : V} {ys : List V} (hy : lenOf y = some m) (hys : cellsOf H sz y = some ys) (hyb : ∀ k, y.blk? = some k → k < H.length) (hs : ys.all V.scalar = true) (hl : ys.length = m * sz)
    (hb : m * by' ≤ 2 ^ 40) (hm : m ≤ lim) :
    ∃ x' H', appendv (H ++ [.cells [] .ex]) sz by' (.sl H.length 0 0 0) y = some (x', H') ∧ ((m = 0 ∧ x' = .sl H.length 0 0 0 ∧ H' = H ++ [.cells [] .ex]) ∨ (0 < m ∧ x' = .sl (H.length + 1) 0 m m ∧ H' = H ++ [.cells [] .ex] ++ [.cells ys (.gr sz)])) := by
  have hys' : cellsOf (H ++ [.cells [] .ex]) sz y = some ys := by
    cases y with
    | sl k o l c =>
      simp only [cellsOf, rdn] at hys ⊢
      rw [List.getElem?_append_left (hyb k rfl)]
      exact hys
    | _ => exact hys
  have hk : (H ++ [Blk.cells [] .ex])[H.length]? = some (.cells [] .ex) := by simp
  unfold appendv
  simp only [hy, hys', hs, hk]
  rw [if_neg (by simp), if_pos (by simp)]
  by_cases h0 : m = 0
  · subst h0
    have : ys = [] := List.eq_nil_of_length_eq_zero (by omega)
    subst this
    refine ⟨.sl H.length 0 0 0, H ++ [.cells [] .ex], ?_, .inl ⟨rfl, rfl, rfl⟩⟩
    rw [if_pos (by omega)]
    simp [wr, wrc, Mode.wr]
  · refine ⟨.sl (H.length + 1) 0 m m, H ++ [.cells [] .ex] ++ [.cells ys (.gr sz)], ?_, .inr ⟨by omega, rfl, rfl⟩⟩
    rw [if_neg (by omega), if_pos (by simpa using ⟨hb, hm⟩)]
    simp
end Go.Ar
