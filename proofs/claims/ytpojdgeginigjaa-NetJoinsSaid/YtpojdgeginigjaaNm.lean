/- NetJoins: the plain law. -/
import Derived.Test.YtpojdgeginigjaaNh
set_option linter.unusedSimpArgs false
set_option linter.unusedVariables false
namespace Go.Proofs.Ytpojdgeginigjaa
open Go Go.Ar
set_option maxRecDepth 100000

def ends (x y : Ar.Arc) : Bool := x.src == y.src && x.dst == y.dst
theorem ends_iff {x y : Ar.Arc} : ends x y = true ↔ x.src = y.src ∧ x.dst = y.dst := by simp [ends]
def plus (x a : Ar.Arc) : Ar.Arc := ⟨x.src, x.dst, x.cap + a.cap⟩
def z3 : Ar.Arc := ⟨0, 0, 0⟩
/-- One arc more is joined: what is joined, and part of which each arc is. -/
def jstep (st : List Ar.Arc × List Int) (a : Ar.Arc) : List Ar.Arc × List Int :=
  if a.src = a.dst then (st.1, st.2 ++ [-1])
  else match st.1.findIdx? (fun x => ends x a) with
    | some i => (st.1.set i (plus (st.1.getD i z3) a), st.2 ++ [(i : Int)])
    | none => (st.1 ++ [a], st.2 ++ [(st.1.length : Int)])
def joinL (l : List Ar.Arc) : List Ar.Arc × List Int := l.foldl jstep ([], [])
theorem joinL_snoc (l : List Ar.Arc) (a : Ar.Arc) : joinL (l ++ [a]) = jstep (joinL l) a := by simp [joinL]
def joinN (n : Net) : Net := { n with arcs := (joinL n.arcs).1 }

/-- All that is part of k, of the first. -/
def partS : List Ar.Arc → List Int → Int → Int
  | a :: l, k' :: r, k => (if k' = k then a.cap else 0) + partS l r k
  | _, _, _ => 0
theorem partS_snoc : ∀ (l : List Ar.Arc) (r : List Int) (a : Ar.Arc) (k' k : Int), l.length = r.length → partS (l ++ [a]) (r ++ [k']) k = partS l r k + if k' = k then a.cap else 0
  | [], [], a, k', k, _ => by simp [partS]
  | b :: l, j :: r, a, k', k, h => by
    have := partS_snoc l r a k' k (by simpa using h)
    simp only [List.cons_append, partS, this]; omega
  | [], _ :: _, _, _, _, h => by simp at h
  | _ :: _, [], _, _, _, h => by simp at h
def topOf (r : List Int) : Int := r.foldl max (-1)
theorem topOf_snoc (r : List Int) (k : Int) : topOf (r ++ [k]) = max (topOf r) k := by simp [topOf]

structure JI (l : List Ar.Arc) (out : List Ar.Arc) (r : List Int) : Prop where
  len : r.length = l.length
  nd : ∀ (i j : Nat) (hi : i < out.length) (hj : j < out.length), ends out[i] out[j] = true → i = j
  nl : ∀ x, x ∈ out → x.src ≠ x.dst
  src : ∀ x, x ∈ out → ∃ a, a ∈ l ∧ a.src = x.src ∧ a.dst = x.dst
  prt : ∀ (i : Nat) (hi : i < l.length), (r.getD i 0 = -1 ∧ l[i].src = l[i].dst) ∨ (l[i].src ≠ l[i].dst ∧ ∃ k, ∃ hk : k < out.length, r.getD i 0 = k ∧ ends out[k] l[i] = true)
  top : topOf r = (out.length : Int) - 1
  stp : ∀ (i : Nat), i < l.length → r.getD i 0 ≤ topOf (r.take i) + 1
  cap : ∀ (k : Nat) (hk : k < out.length), out[k].cap = partS l r k
  pos : (∀ a, a ∈ l → 0 ≤ a.cap) → ∀ x, x ∈ out → 0 ≤ x.cap
  sum : (∀ a, a ∈ l → 0 ≤ a.cap) → capS out ≤ capS l
  le : out.length ≤ l.length
  far : ∀ k : Int, (out.length : Int) ≤ k → partS l r k = 0

theorem capS_set : ∀ (l : List Ar.Arc) (i : Nat) (a : Ar.Arc) (hi : i < l.length), capS (l.set i a) = capS l - l[i].cap + a.cap
  | [], i, a, hi => by simp at hi
  | x :: l, 0, a, hi => by simp [capS]; omega
  | x :: l, i + 1, a, hi => by
    have := capS_set l i a (by simpa using hi)
    simp only [List.set_cons_succ, capS_cons, this, List.getElem_cons_succ]; omega

theorem ji_nil : JI [] [] [] := ⟨rfl, fun i j hi => by simp at hi, fun x hx => by simp at hx, fun x hx => by simp at hx, fun i hi => by simp at hi, rfl, fun i hi => by simp at hi, fun k hk => by simp at hk, fun _ x hx => by simp at hx, fun _ => Int.le_refl _, Nat.le_refl _, fun k _ => rfl⟩

theorem getD_snoc (r : List Int) (k d : Int) (i : Nat) : (r ++ [k]).getD i d = if i < r.length then r.getD i d else if i = r.length then k else d := by
  simp only [List.getD_eq_getElem?_getD, List.getElem?_append]
  split
  · rfl
  · cases hd : i - r.length with
    | zero => rw [if_pos (by omega)]; rfl
    | succ j => rw [if_neg (by omega)]; rfl
theorem take_snoc (r : List Int) (k : Int) (i : Nat) (hi : i ≤ r.length) : (r ++ [k]).take i = r.take i := by
  rw [List.take_append]; simp [Nat.sub_eq_zero_of_le hi]

theorem ji_step {l out : List Ar.Arc} {r : List Int} (h : JI l out r) (a : Ar.Arc) : JI (l ++ [a]) (jstep (out, r) a).1 (jstep (out, r) a).2 := by
  have hl := h.len
  unfold jstep
  simp only
  by_cases hloop : a.src = a.dst
  · rw [if_pos hloop]
    show JI (l ++ [a]) out (r ++ [-1])
    refine ⟨by simp [hl], h.nd, h.nl, fun x hx => ?_, fun i hi => ?_, by rw [topOf_snoc, h.top]; omega, fun i hi => ?_, fun k hk => ?_, fun hp => h.pos fun b hb => hp b (by simp [hb]), fun hp => ?_, by have := h.le; simp; omega, fun k hk => ?_⟩
    · obtain ⟨b, hb, h1⟩ := h.src x hx
      exact ⟨b, by simp [hb], h1⟩
    · rw [getD_snoc]
      simp only [List.length_append, List.length_singleton] at hi
      by_cases hil : i < l.length
      · rw [if_pos (by omega)]
        have := h.prt i hil
        rw [List.getElem_append_left hil]
        exact this
      · have hie : i = l.length := by omega
        subst hie
        rw [if_neg (by omega), if_pos hl.symm]
        rw [List.getElem_append_right (Nat.le_refl _)]
        simp [hloop]
    · simp only [List.length_append, List.length_singleton] at hi
      rw [take_snoc _ _ _ (by omega), getD_snoc]
      by_cases hil : i < l.length
      · rw [if_pos (by omega)]; exact h.stp i hil
      · rw [if_neg (by omega), if_pos (by omega), List.take_of_length_le (by omega), h.top]; omega
    · rw [partS_snoc _ _ _ _ _ hl.symm, if_neg (by omega), ← h.cap k hk]; omega
    · have h1 := h.sum fun b hb => hp b (by simp [hb])
      have h2 := hp a (by simp)
      rw [capS_append]; simp only [capS]; omega
    · rw [partS_snoc _ _ _ _ _ hl.symm, if_neg (by omega), h.far k hk]; rfl
  · rw [if_neg hloop]
    cases hf : out.findIdx? (fun x => ends x a) with
    | some i =>
      rw [List.findIdx?_eq_some_iff_getElem] at hf
      obtain ⟨hi, he, _⟩ := hf
      rw [ends_iff] at he
      have hgd : out.getD i z3 = out[i] := by rw [List.getD_eq_getElem?_getD, List.getElem?_eq_getElem hi]; rfl
      simp only [hgd]
      have hends : ∀ (j : Nat) (hj : j < (out.set i (plus out[i] a)).length), ((out.set i (plus out[i] a))[j]).src = (out[j]'(by simpa using hj)).src ∧ ((out.set i (plus out[i] a))[j]).dst = (out[j]'(by simpa using hj)).dst := fun j hj => by
        rw [List.getElem_set]
        split
        · rename_i e; subst e; exact ⟨rfl, rfl⟩
        · exact ⟨rfl, rfl⟩
      have hmem : ∀ x, x ∈ out.set i (plus out[i] a) → x ∈ out ∨ x = plus out[i] a := fun x hx => List.mem_or_eq_of_mem_set hx
      have hoi := List.getElem_mem hi
      refine ⟨by simp [hl], fun p q hp hq hpq => ?_, fun x hx => ?_, fun x hx => ?_, fun j hj => ?_, by rw [topOf_snoc, h.top]; simp; omega, fun j hj => ?_, fun k hk => ?_, fun hp x hx => ?_, fun hp => ?_, by have := h.le; simp; omega, fun k hk => ?_⟩
      · rw [ends_iff] at hpq
        obtain ⟨e1, e2⟩ := hends p hp
        obtain ⟨e3, e4⟩ := hends q hq
        refine h.nd p q (by simpa using hp) (by simpa using hq) (ends_iff.2 ⟨?_, ?_⟩)
        · rw [← e1, ← e3]; exact hpq.1
        · rw [← e2, ← e4]; exact hpq.2
      · rcases hmem x hx with hx | rfl
        · exact h.nl x hx
        · exact (h.nl out[i] hoi : out[i].src ≠ out[i].dst)
      · rcases hmem x hx with hx | rfl
        · obtain ⟨b, hb, h1⟩ := h.src x hx
          exact ⟨b, by simp [hb], h1⟩
        · exact ⟨a, by simp, he.1.symm, he.2.symm⟩
      · rw [getD_snoc]
        simp only [List.length_append, List.length_singleton] at hj
        by_cases hjl : j < l.length
        · rw [if_pos (by omega), List.getElem_append_left hjl]
          rcases h.prt j hjl with h1 | ⟨h1, k, hk, h2, h3⟩
          · exact .inl h1
          · obtain ⟨e1, e2⟩ := hends k (by simpa using hk)
            rw [ends_iff] at h3
            exact .inr ⟨h1, k, by simpa using hk, h2, ends_iff.2 ⟨e1.trans h3.1, e2.trans h3.2⟩⟩
        · have hje : j = l.length := by omega
          subst hje
          rw [if_neg (by omega), if_pos hl.symm, List.getElem_append_right (Nat.le_refl _)]
          obtain ⟨e1, e2⟩ := hends i (by simpa using hi)
          refine .inr ⟨by simpa using hloop, i, by simpa using hi, rfl, ends_iff.2 ⟨?_, ?_⟩⟩
          · simpa using e1.trans he.1
          · simpa using e2.trans he.2
      · simp only [List.length_append, List.length_singleton] at hj
        rw [take_snoc _ _ _ (by omega), getD_snoc]
        by_cases hjl : j < l.length
        · rw [if_pos (by omega)]; exact h.stp j hjl
        · rw [if_neg (by omega), if_pos (by omega), List.take_of_length_le (by omega), h.top]; omega
      · have hk' : k < out.length := by simpa using hk
        rw [partS_snoc _ _ _ _ _ hl.symm, List.getElem_set]
        by_cases e : i = k
        · subst e
          rw [if_pos rfl, if_pos rfl, ← h.cap i hk']; rfl
        · rw [if_neg e, if_neg (by omega), ← h.cap k hk']; omega
      · have hp' : ∀ b, b ∈ l → 0 ≤ b.cap := fun b hb => hp b (by simp [hb])
        rcases hmem x hx with hx | rfl
        · exact h.pos hp' x hx
        · have h1 := h.pos hp' _ hoi
          have h2 := hp a (by simp)
          show 0 ≤ out[i].cap + a.cap
          omega
      · have h1 := h.sum fun b hb => hp b (by simp [hb])
        rw [capS_append, capS_set _ _ _ hi]
        simp only [capS, plus]; omega
      · simp only [List.length_set] at hk
        rw [partS_snoc _ _ _ _ _ hl.symm, if_neg (by omega), h.far k hk]; rfl
    | none =>
      rw [List.findIdx?_eq_none_iff] at hf
      refine ⟨by simp [hl], fun p q hp hq hpq => ?_, fun x hx => ?_, fun x hx => ?_, fun j hj => ?_, by rw [topOf_snoc, h.top]; simp; omega, fun j hj => ?_, fun k hk => ?_, fun hp x hx => ?_, fun hp => ?_, by have := h.le; simp; omega, fun k hk => ?_⟩
      · simp only [List.length_append, List.length_singleton] at hp hq
        by_cases hpo : p < out.length
        · by_cases hqo : q < out.length
          · rw [List.getElem_append_left hpo, List.getElem_append_left hqo] at hpq
            exact h.nd p q hpo hqo hpq
          · exfalso
            rw [List.getElem_append_left hpo, List.getElem_append_right (by omega)] at hpq
            have := hf _ (List.getElem_mem hpo)
            simp at hpq
            rw [hpq] at this; cases this
        · by_cases hqo : q < out.length
          · exfalso
            rw [List.getElem_append_right (by omega), List.getElem_append_left hqo] at hpq
            have := hf _ (List.getElem_mem hqo)
            simp [ends_iff] at hpq
            rw [ends_iff.2 ⟨hpq.1.symm, hpq.2.symm⟩] at this; cases this
          · omega
      · rcases List.mem_append.1 hx with hx | hx
        · exact h.nl x hx
        · simp at hx; subst hx; exact hloop
      · rcases List.mem_append.1 hx with hx | hx
        · obtain ⟨b, hb, h1⟩ := h.src x hx
          exact ⟨b, by simp [hb], h1⟩
        · simp at hx; subst hx; exact ⟨x, by simp, rfl, rfl⟩
      · rw [getD_snoc]
        simp only [List.length_append, List.length_singleton] at hj
        by_cases hjl : j < l.length
        · rw [if_pos (by omega), List.getElem_append_left hjl]
          rcases h.prt j hjl with h1 | ⟨h1, k, hk, h2, h3⟩
          · exact .inl h1
          · exact .inr ⟨h1, k, by simp; omega, h2, by rw [List.getElem_append_left hk]; exact h3⟩
        · have hje : j = l.length := by omega
          subst hje
          rw [if_neg (by omega), if_pos hl.symm, List.getElem_append_right (Nat.le_refl _)]
          refine .inr ⟨by simpa using hloop, out.length, by simp, rfl, ?_⟩
          rw [List.getElem_append_right (Nat.le_refl _)]
          simp [ends_iff]
      · simp only [List.length_append, List.length_singleton] at hj
        rw [take_snoc _ _ _ (by omega), getD_snoc]
        by_cases hjl : j < l.length
        · rw [if_pos (by omega)]; exact h.stp j hjl
        · rw [if_neg (by omega), if_pos (by omega), List.take_of_length_le (by omega), h.top]; omega
      · simp only [List.length_append, List.length_singleton] at hk
        rw [partS_snoc _ _ _ _ _ hl.symm]
        by_cases hko : k < out.length
        · rw [List.getElem_append_left hko, if_neg (by omega), ← h.cap k hko]; omega
        · have : k = out.length := by omega
          subst this
          rw [List.getElem_append_right (Nat.le_refl _), if_pos rfl, h.far _ (by omega)]
          simp
      · rcases List.mem_append.1 hx with hx | hx
        · exact h.pos (fun b hb => hp b (by simp [hb])) x hx
        · simp at hx; subst hx; exact hp x (by simp)
      · have h1 := h.sum fun b hb => hp b (by simp [hb])
        rw [capS_append, capS_append]; omega
      · simp only [List.length_append, List.length_singleton] at hk
        rw [partS_snoc _ _ _ _ _ hl.symm, if_neg (by omega), h.far k (by omega)]; rfl
theorem ji_take (l : List Ar.Arc) : ∀ i, i ≤ l.length → JI (l.take i) (joinL (l.take i)).1 (joinL (l.take i)).2
  | 0, _ => by simpa [joinL] using ji_nil
  | i + 1, hi => by
    have := ji_step (ji_take l i (by omega)) (l[i]'(by omega))
    have e : l.take (i + 1) = l.take i ++ [l[i]'(by omega)] := by rw [List.take_add_one, List.getElem?_eq_getElem (by omega)]; rfl
    rw [e, joinL_snoc]
    exact this
theorem ji_all (l : List Ar.Arc) : JI l (joinL l).1 (joinL l).2 := by
  have := ji_take l l.length (Nat.le_refl _)
  rwa [List.take_length] at this
/-- Arcs of which no two have the same ends, joined: as they are. -/
theorem join_id {l : List Ar.Arc} (nd : ∀ (i j : Nat) (hi : i < l.length) (hj : j < l.length), ends l[i] l[j] = true → i = j) (nl : ∀ x, x ∈ l → x.src ≠ x.dst) : ∀ i, i ≤ l.length → joinL (l.take i) = (l.take i, (List.range i).map fun j : Nat => (j : Int))
  | 0, _ => by simp [joinL]
  | i + 1, hi => by
    have ih := join_id nd nl i (by omega)
    have e : l.take (i + 1) = l.take i ++ [l[i]'(by omega)] := by rw [List.take_add_one, List.getElem?_eq_getElem (by omega)]; rfl
    rw [e, joinL_snoc, ih]
    unfold jstep
    rw [if_neg (nl _ (List.getElem_mem _))]
    have hf : (l.take i).findIdx? (fun x => ends x (l[i]'(by omega))) = none := by
      rw [List.findIdx?_eq_none_iff]
      intro x hx
      obtain ⟨j, hj, rfl⟩ := List.mem_iff_getElem.1 hx
      simp only [List.length_take] at hj
      rw [List.getElem_take]
      refine Bool.eq_false_iff.2 fun h => ?_
      have := nd j i (by omega) (by omega) h
      omega
    simp only [hf, List.range_succ, List.map_append, List.length_take]
    rw [Nat.min_eq_left (by omega)]; rfl
end Go.Proofs.Ytpojdgeginigjaa
