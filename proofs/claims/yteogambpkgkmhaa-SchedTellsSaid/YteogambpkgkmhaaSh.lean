/- SchedRounds: the walk, with the plain law beside it. -/
import Derived.Test.YteogambpkgkmhaaSg
set_option linter.unusedSimpArgs false
set_option linter.unusedVariables false
namespace Go.Proofs.Yteogambpkgkmhaa
open Go Go.Ar
set_option maxRecDepth 100000

/-- Entries of a map: workers that were met. -/
def mets (ws : List Nat) : List (V × V) := ws.map fun w : Nat => (V.int .i64 (w : Int), V.int .i64 1)
theorem findk_mets (w : Nat) : ∀ (ws : List Nat) (j : Nat), findk (.int .i64 (w : Int)) (mets ws) j = some (if w ∈ ws then some (j + ws.idxOf w, .int .i64 1) else none)
  | [], j => rfl
  | x :: ws, j => by
    have ih := findk_mets w ws (j + 1)
    unfold mets at ih ⊢
    simp only [List.map_cons, findk, keyEq, if_true, int_beq]
    by_cases e : w = x
    · subst e; simp
    · have h1 : (w == x) = false := by simpa using e
      have h2 : (x == w) = false := by simpa using fun h => e h.symm
      simp only [h1, ih]
      by_cases hm : w ∈ ws
      · simp [hm, e, List.idxOf_cons, h2]; omega
      · simp [hm, e]
def met1 (ws : List Nat) (w : Nat) : List Nat := if w ∈ ws then ws else ws ++ [w]
theorem met1_mem {ws : List Nat} {w x : Nat} : x ∈ met1 ws w ↔ x ∈ ws ∨ x = w := by
  unfold met1
  split
  · rename_i h; constructor
    · exact fun h => .inl h
    · rintro (h | rfl) <;> assumption
  · simp
theorem met1_nodup {ws : List Nat} {w : Nat} (h : ws.Nodup) : (met1 ws w).Nodup := by
  unfold met1
  split
  · exact h
  · rename_i hn
    rw [List.nodup_append]
    exact ⟨h, by simp, fun a ha b hb => by simp at hb; subst hb; exact fun e => hn (e ▸ ha)⟩
theorem mapupd_mets {call : CallF} {τ : Nat → V} {H : Heap} {km w : Nat} {ws : List Nat} {m x : X} (hm : ev τ m = .map km) (hx : ev τ x = .int .i64 (w : Int)) (hk : H[km]? = some (.mp (mets ws))) :
    aop call τ H (.mapupd .int m x (.c (.int .i64 1))) = some (.undef, H.set km (.mp (mets (met1 ws w)))) := by
  have h1 : mpAt H km = some (mets ws) := by simp [mpAt, hk]
  have h2 : keyf .int (.int .i64 (w : Int)) (mets ws) = some (if w ∈ ws then some (0 + ws.idxOf w, .int .i64 1) else none) := by
    exact findk_mets w ws 0
  simp only [aop_mapupd, hm, hx, h1, h2]
  simp only [ev]
  by_cases hw : w ∈ ws
  · simp only [if_pos hw, met1]
    have h3 : (mets ws).set (0 + ws.idxOf w) (V.int .i64 (w : Int), V.int .i64 1) = mets ws := by
      refine List.ext_getElem (by simp) fun j h1 h2 => ?_
      rw [List.getElem_set]
      split
      · rename_i e
        have hj : j < ws.length := by simpa [mets] using h2
        have : ws[j] = w := by
          have := List.getElem_idxOf (List.idxOf_lt_length_of_mem hw)
          have e2 : ws.idxOf w = j := by omega
          simpa [e2] using this
        simp [mets, this]
      · rfl
    rw [h3]
  · simp only [if_neg hw, met1]
    simp [mets]

theorem nodup_len : ∀ (ws l : List Nat), ws.Nodup → (∀ w, w ∈ ws → w ∈ l) → ws.length ≤ l.length
  | [], _, _, _ => Nat.zero_le _
  | w :: ws, l, h, hs => by
    rw [List.nodup_cons] at h
    have hw := hs w (by simp)
    have h1 := nodup_len ws (l.erase w) h.2 fun x hx => (List.mem_erase_of_ne (by rintro rfl; exact h.1 hx)).2 (hs x (by simp [hx]))
    rw [List.length_erase_of_mem hw] at h1
    have := List.length_pos_of_mem hw
    simp only [List.length_cons]
    omega
theorem nodup_full {ws : List Nat} {n : Nat} (h : ws.Nodup) (hlt : ∀ w, w ∈ ws → w < n) : ws.length = n ↔ ∀ i, i < n → i ∈ ws := by
  constructor
  · intro hl i hi
    refine Classical.byContradiction fun hn => ?_
    have := nodup_len ws ((List.range n).erase i) h fun w hw => (List.mem_erase_of_ne (by rintro rfl; exact hn hw)).2 (by simpa using hlt w hw)
    rw [List.length_erase_of_mem (by simpa using hi)] at this
    simp at this
    omega
  · intro hall
    have h1 := nodup_len ws (List.range n) h fun w hw => by simpa using hlt w hw
    have h2 := nodup_len (List.range n) ws List.nodup_range fun w hw => hall w (by simpa using hw)
    simp at h1 h2
    omega

theorem allDone_iff {told done : List Bool} : allDone told done = true ↔ ∀ i, i < told.length → told.getD i false = true ∨ done.getD i false = true := by
  unfold allDone
  rw [List.all_eq_true]
  constructor
  · intro h i hi
    have := h i (by simpa using hi)
    simpa using this
  · intro h i hi
    have := h i (by simpa using hi)
    simpa using this

/-- Whoever was told is met. -/
structure MS (n : Nat) (s : PS) (ws : List Nat) : Prop where
  nd : ws.Nodup
  lt : ∀ w, w ∈ ws → w < n
  eq : ∀ w, w < n → (w ∈ ws ↔ s.told.getD w false = true)

theorem getD_set {α : Type} (l : List α) (i j : Nat) (v d : α) (hi : i < l.length) : (l.set i v).getD j d = if i = j then v else l.getD j d := by
  simp only [List.getD_eq_getElem?_getD]
  rw [List.getElem?_set]
  split
  · rename_i e; subst e; simp [hi]
  · rfl

/-- A step that asks nobody. -/
theorem ms_step {n : Nat} {s : PS} {ws : List Nat} (hf : Fit s n) (hm : MS n s ws) : ∃ w, (s.next []).1 = some w ∧ w < n ∧
    (if (met1 ws w).length = n then (s.next []).2.ended = IntKind.i64.wrap (s.ended + 1) ∧ MS n (s.next []).2 [] else (s.next []).2.ended = s.ended ∧ MS n (s.next []).2 (met1 ws w)) := by
  rcases hf.who [] with ⟨w, h1, h2, h3, h4⟩ | ⟨_, _, h⟩
  case inr => have := h 0 hf.pos; simp at this
  refine ⟨w, h1, h2, ?_⟩
  rw [h4]
  have hlt : ∀ x, x ∈ met1 ws w → x < n := fun x hx => by
    rcases met1_mem.1 hx with h | rfl
    · exact hm.lt x h
    · exact h2
  have hiff : (met1 ws w).length = n ↔ allDone (s.told.set w true) [] = true := by
    rw [nodup_full (met1_nodup hm.nd) hlt, allDone_iff]
    simp only [List.length_set, hf.told]
    refine forall_congr' fun i => forall_congr' fun hi => ?_
    rw [met1_mem, getD_set _ _ _ _ _ (by rw [hf.told]; exact h2), hm.eq i hi]
    by_cases e : w = i
    · subst e; simp
    · have e' : i ≠ w := fun h => e h.symm
      simp [e, e']
  by_cases hall : allDone (s.told.set w true) [] = true
  · rw [if_pos (hiff.2 hall)]
    refine ⟨by simp only [endedOf, if_pos hall], List.nodup_nil, fun x hx => by simp at hx, fun x hx => ?_⟩
    simp only [toldOf, if_pos hall]
    simp [List.getElem?_replicate]
    split <;> rfl
  · rw [if_neg (fun h => hall (hiff.1 h))]
    refine ⟨by simp only [endedOf, if_neg hall], met1_nodup hm.nd, hlt, fun x hx => ?_⟩
    simp only [toldOf, if_neg hall]
    rw [met1_mem, getD_set _ _ _ _ _ (by rw [hf.told]; exact h2), hm.eq x hx]
    by_cases e : w = x
    · subst e; simp
    · have e' : x ≠ w := fun h => e h.symm
      simp [e, e']

theorem nodup_le' {n w : Nat} {s : PS} {ws : List Nat} (hm : MS n s ws) (hw : w < n) : (met1 ws w).length ≤ n := by
  have := nodup_len (met1 ws w) (List.range n) (met1_nodup hm.nd) fun x hx => by
    rcases met1_mem.1 hx with h | rfl
    · simpa using hm.lt x h
    · simpa using hw
  simpa using this

/-- A step, if all but one are done. -/
theorem one_step {n c : Nat} {s : PS} (hf : Fit s n) {done : List Bool} (hc : c < n) (hd : ∀ i, i < n → done.getD i false = decide (i ≠ c)) : (s.next done).1 = some c ∧ (s.next done).2.ended = IntKind.i64.wrap (s.ended + 1) := by
  rcases hf.who done with ⟨w, h1, h2, h3, h4⟩ | ⟨_, _, h⟩
  · rw [hd w h2] at h3
    have : w = c := by simpa using h3
    subst this
    refine ⟨h1, ?_⟩
    rw [h4]
    have hall : allDone (s.told.set w true) done = true := by
      rw [allDone_iff]
      intro i hi
      simp only [List.length_set, hf.told] at hi
      rw [getD_set _ _ _ _ _ (by rw [hf.told]; exact h2), hd i hi]
      by_cases e : w = i
      · simp [e]
      · have e' : i ≠ w := fun h => e h.symm
        simp [e']
    simp only [endedOf, if_pos hall]
  · have := h c hc
    rw [hd c hc] at this
    simp at this
end Go.Proofs.Yteogambpkgkmhaa
