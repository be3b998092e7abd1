/- SchedFair: the plain law. -/
import Derived.Test.YteogambpkgkmhaaSj
set_option linter.unusedSimpArgs false
set_option linter.unusedVariables false
namespace Go.Proofs.Yteogambpkgkmhaa
open Go Go.Ar
set_option maxRecDepth 100000

/-- How far behind one another. -/
def cy (n b x : Int) : Int := if b ≤ x then x - b else x - b + n
theorem cy_hit {n : Nat} {b x : Int} (hb : 0 ≤ b) (hbn : b < n) (hx : 0 ≤ x) (hxn : x < n) : 0 ≤ cy n b x ∧ cy n b x < n ∧ (b + cy n b x).tmod n = x := by
  unfold cy
  split
  · refine ⟨by omega, by omega, ?_⟩
    have : b + (x - b) = x := by omega
    rw [this, Int.tmod_eq_of_lt hx hxn]
  · refine ⟨by omega, by omega, ?_⟩
    have : b + (x - b + n) = x + n * 1 := by omega
    rw [this, Int.tmod_eq_emod_of_nonneg (by omega), Int.add_mul_emod_self_left, Int.emod_eq_of_lt hx hxn]
theorem cy_inj {n : Nat} {b : Int} {i : Nat} (hb : 0 ≤ b) (hbn : b < n) (hi : i < n) : cy n b ((b + i).tmod n) = i := by
  rw [Int.tmod_eq_emod_of_nonneg (by omega)]
  by_cases h : b + i < n
  · rw [Int.emod_eq_of_lt (by omega) h]; unfold cy; rw [if_pos (by omega)]; omega
  · have : (b + i) % (n : Int) = b + i - n := by
      have h2 : b + (i : Int) = (b + i - n) + n * 1 := by omega
      rw [h2, Int.add_mul_emod_self_left, Int.emod_eq_of_lt (by omega) (by omega)]; omega
    rw [this]; unfold cy; rw [if_neg (by omega)]; omega
theorem firstOf_min {done : List Bool} {b : Int} {n w : Nat} (hb : 0 ≤ b) (hbn : b < n) (h : firstOf done b n = some w) {x : Nat} (hx : x < n) (hd : done.getD x false = false) : cy n b w ≤ cy n b x := by
  unfold firstOf at h
  rw [List.find?_map] at h
  simp only [Option.map_eq_some_iff] at h
  obtain ⟨i0, h1, rfl⟩ := h
  rw [List.find?_range_eq_some] at h1
  obtain ⟨_, h2, h3⟩ := h1
  have hi0 : i0 < n := by simpa using h2
  obtain ⟨c1, c2, c3⟩ := cy_hit hb hbn (x := x) (by omega) (by omega)
  have hw0 : 0 ≤ (b + (i0 : Int)).tmod (n : Int) := Int.tmod_nonneg _ (by omega)
  rw [Int.toNat_of_nonneg hw0, cy_inj hb hbn hi0]
  refine Classical.byContradiction fun hn => ?_
  have h4 := h3 (cy n b x).toNat (by omega)
  simp only [Function.comp] at h4
  have h5 : (((cy n b x).toNat : Nat) : Int) = cy n b x := Int.toNat_of_nonneg c1
  rw [h5, c3, Int.toNat_natCast, hd] at h4
  simp at h4

theorem begin_nil {last : Int} {n : Nat} (h0 : 0 ≤ last) (h1 : last < n) : beginOf [] last n = if last + 1 = n then 0 else last + 1 := by
  show (last + 1).tmod n = _
  by_cases h : last + 1 = n
  · rw [if_pos h, h, Int.tmod_self]
  · rw [if_neg h]; exact Int.tmod_eq_of_lt (by omega) (by omega)

theorem sum_set : ∀ (l : List Int) (i : Nat) (v : Int), i < l.length → (l.set i v).sum = l.sum - l.getD i 0 + v
  | [], i, v, h => by simp at h
  | x :: l, 0, v, h => by simp; omega
  | x :: l, i + 1, v, h => by
    have := sum_set l i v (by simpa using h)
    simp only [List.set_cons_succ, List.sum_cons, this, List.getD_cons_succ]
    omega
theorem sum_pos : ∀ (l : List Int), (∀ x, x ∈ l → 0 ≤ x) → 0 < l.sum → ∃ i, i < l.length ∧ 0 < l.getD i 0
  | [], _, h => by simp at h
  | x :: l, hx, h => by
    by_cases h0 : 0 < x
    · exact ⟨0, by simp, by simpa using h0⟩
    · have : x = 0 := by have := hx x (by simp); omega
      subst this
      obtain ⟨i, h1, h2⟩ := sum_pos l (fun y hy => hx y (by simp [hy])) (by simpa using h)
      exact ⟨i + 1, by simpa using h1, by simpa using h2⟩
theorem sum_zero : ∀ (l : List Int), (∀ x, x ∈ l → 0 ≤ x) → l.sum ≤ 0 → ∀ i, i < l.length → l.getD i 0 = 0
  | [], _, _, i, h => by simp at h
  | x :: l, hx, h, i, hi => by
    have h1 := hx x (by simp)
    have h2 : 0 ≤ l.sum := by
      have : ∀ (l : List Int), (∀ x, x ∈ l → 0 ≤ x) → 0 ≤ l.sum := by
        intro l
        induction l with
        | nil => simp
        | cons y l ih => intro h; have := h y (by simp); have := ih fun z hz => h z (by simp [hz]); simp; omega
      exact this l fun y hy => hx y (by simp [hy])
    simp only [List.sum_cons] at h
    cases i with
    | zero => simp; omega
    | succ i => simpa using sum_zero l (fun y hy => hx y (by simp [hy])) (by omega) i (by simpa using hi)

structure FI (n k : Nat) (s : PS) (left since : List Int) : Prop where
  fit : Fit s n
  l1 : left.length = n
  l2 : since.length = n
  lb : ∀ x, x ∈ left → 0 ≤ x ∧ x ≤ 11
  sb : ∀ i, i < n → 0 ≤ since.getD i 0 ∧ since.getD i 0 < k
  pk : s.picks ≠ [] → ∀ i, i < n → since.getD i 0 = 0
  ord : ∀ i j : Nat, i < n → j < n → 0 < left.getD i 0 → 0 < left.getD j 0 → cy n (beginOf [] s.last n) i < cy n (beginOf [] s.last n) j → since.getD i 0 ≤ since.getD j 0

def dn (left : List Int) : List Bool := left.map (· == 0)
theorem dn_getD {left : List Int} {i : Nat} (h : i < left.length) : (dn left).getD i false = (left.getD i 0 == 0) := by simp [dn, h]
theorem mem_getD {l : List Int} {i : Nat} (h : i < l.length) : l.getD i 0 ∈ l := by
  rw [List.getD_eq_getElem?_getD, List.getElem?_eq_getElem h]; simp

theorem fair_step {n k : Nat} {s : PS} {left since : List Int} (h : FI n k s left since) (hs : 0 < left.sum) :
    ∃ w, (s.next (dn left)).1 = some w ∧ w < n ∧ 0 < left.getD w 0 ∧ left.getD w 0 ≤ 11 ∧ (s.picks = [] → ∀ i, i < n → i ≠ w → 0 < left.getD i 0 → since.getD w 0 ≤ since.getD i 0) ∧
      FI n (k + 1) (s.next (dn left)).2 (left.set w (left.getD w 0 - 1)) (if s.picks = [] then since.set w k else since) ∧ (left.set w (left.getD w 0 - 1)).sum = left.sum - 1 := by
  have hl := h.l1
  obtain ⟨x, hx1, hx2⟩ := sum_pos left (fun x hx => (h.lb x hx).1) hs
  have hb := h.fit.bounds
  rw [h.fit.told] at hb
  rcases h.fit.who (dn left) with ⟨w, h1, h2, h3, h4⟩ | ⟨_, _, h5⟩
  case inr =>
    have := h5 x (by omega)
    rw [dn_getD hx1] at this
    rw [beq_iff_eq] at this
    omega
  have hwl : w < left.length := by omega
  have hwp : 0 < left.getD w 0 := by
    rw [dn_getD hwl] at h3
    have h6 := (h.lb _ (mem_getD hwl)).1
    have : left.getD w 0 ≠ 0 := by simpa using h3
    omega
  have hf' := h.fit.next (dn left)
  have hlast : (s.next (dn left)).2.last = w := by rw [h4]
  have hpicks : (s.next (dn left)).2.picks = s.picks.tail := by rw [h4]
  have hmin : s.picks = [] → ∀ x, x < n → 0 < left.getD x 0 → cy n (beginOf [] s.last n) w ≤ cy n (beginOf [] s.last n) x := fun hp x hx hxp => by
    have hfo : firstOf (dn left) (beginOf s.picks s.last n) n = some w := by
      have := h1
      unfold PS.next at this
      rw [h.fit.told] at this
      split at this
      · rename_i w' hw'; simp at this; subst this; exact hw'
      · cases this
    rw [hp] at hfo hb
    refine firstOf_min hb.1 hb.2 hfo hx ?_
    rw [dn_getD (by omega)]
    exact beq_eq_false_iff_ne.2 (by omega)
  have hbn := begin_nil (n := n) h.fit.l0 h.fit.l1
  have hset : ∀ i, (left.set w (left.getD w 0 - 1)).getD i 0 = if w = i then left.getD w 0 - 1 else left.getD i 0 := fun i => getD_set _ _ _ _ _ hwl
  have hcyinj : ∀ i : Nat, i < n → i ≠ w → cy n (beginOf [] s.last n) i ≠ cy n (beginOf [] s.last n) w := fun i hi hne => by
    rw [hbn]
    have := h.fit.l0
    have := h.fit.l1
    unfold cy
    split <;> split <;> split <;> omega
  refine ⟨w, h1, h2, hwp, (h.lb _ (mem_getD hwl)).2, fun hp i hi hne hip => ?_, ⟨hf', by simp [hl], ?_, fun x hx => ?_, fun i hi => ?_, fun hp i hi => ?_, fun i j hi hj hip hjp hc => ?_⟩, by rw [sum_set _ _ _ hwl]; omega⟩
  · refine h.ord w i h2 hi hwp hip ?_
    have := hmin hp i hi hip
    have := hcyinj i hi hne
    omega
  · split
    · simp [h.l2]
    · exact h.l2
  · rcases List.mem_or_eq_of_mem_set hx with hm | rfl
    · exact h.lb x hm
    · have := h.lb _ (mem_getD hwl)
      omega
  · have := h.sb i hi
    split
    · rw [getD_set _ _ _ _ _ (by rw [h.l2]; exact h2)]
      split <;> omega
    · omega
  · rw [hpicks] at hp
    have hne : s.picks ≠ [] := fun e => hp (by rw [e]; rfl)
    rw [if_neg hne]
    exact h.pk hne i hi
  · rw [hset] at hip hjp
    rw [hlast, begin_nil (by omega) (by omega)] at hc
    by_cases hp : s.picks = []
    · rw [if_pos hp, getD_set _ _ _ _ _ (by rw [h.l2]; exact h2), getD_set _ _ _ _ _ (by rw [h.l2]; exact h2)]
      by_cases ej : w = j
      · rw [if_pos ej]
        split
        · omega
        · have := (h.sb i hi).2; omega
      · rw [if_neg ej]
        rw [if_neg ej] at hjp
        by_cases ei : w = i
        · exfalso
          subst ei
          unfold cy at hc
          repeat' split at hc
          all_goals omega
        · rw [if_neg ei]
          rw [if_neg ei] at hip
          refine h.ord i j hi hj hip hjp ?_
          have m1 := hmin hp i hi hip
          have m2 := hmin hp j hj hjp
          have q1 := hcyinj i hi (fun e => ei e.symm)
          have q2 := hcyinj j hj (fun e => ej e.symm)
          rw [hbn] at m1 m2 q1 q2 ⊢
          have := h.fit.l0
          have := h.fit.l1
          generalize s.last = l at *
          unfold cy at *
          repeat' split at hc
          all_goals (repeat' split at m1)
          all_goals (repeat' split at m2)
          all_goals (try omega)
          all_goals (repeat' split)
          all_goals omega
    · rw [if_neg hp]
      rw [h.pk hp i hi, h.pk hp j hj]; exact Int.le_refl _
end Go.Proofs.Yteogambpkgkmhaa
