/- A net, handed in. -/
import Derived.Test.YtpojdgeginigjaaNd
set_option linter.unusedSimpArgs false
set_option linter.unusedVariables false
namespace Go.Proofs.Ytpojdgeginigjaa
open Go Go.Ar

def i64b (x : Int) : Prop := -9223372036854775808 ≤ x ∧ x ≤ 9223372036854775807
theorem i64_of {x : Int} (h : IntKind.i64.min ≤ x ∧ x ≤ IntKind.i64.max) : i64b x := by
  simp [IntKind.min, IntKind.max, IntKind.bits, IntKind.signed] at h
  exact h
theorem SlOk_Sl {ks : List KE} {H : Heap} {u : V} (h : SlOk ks H u) : Sl u := by
  rcases h with rfl | ⟨k, len, cs, rfl, _⟩
  · exact .inl rfl
  · exact .inr ⟨_, _, _, _, rfl⟩
def A3 : List KE := [.int .i64, .int .i64, .int .i64]
theorem SlOk.AL {H : Heap} {u : V} (h : SlOk A3 H u) : ∃ l, AL H u l ∧ SlG H 3 u ∧ l.length ≤ maxLen ∧ ∀ x, x ∈ l → i64b x.src ∧ i64b x.dst ∧ i64b x.cap := by
  rcases h with rfl | ⟨k, len, cs, rfl, hk, hl, hm, hx⟩
  · exact ⟨[], ⟨rfl, rfl⟩, trivial, by simp, by simp⟩
  · have hl3 : cs.length = len * 3 := hl
    have hz : ∀ i, i < cs.length → ∃ z, cs[i]? = some (.int .i64 z) ∧ i64b z := fun i hi => by
      obtain ⟨e, he, hok⟩ := hx i _ (List.getElem?_eq_getElem hi)
      have hmod : i % A3.length = 0 ∨ i % A3.length = 1 ∨ i % A3.length = 2 := by simp [A3]; omega
      have hee : e = .int .i64 := by
        rcases hmod with h | h | h <;> rw [h] at he <;> simp [A3] at he <;> exact he.symm
      subst hee
      obtain ⟨z, hz, hb⟩ := hok
      exact ⟨z, by rw [List.getElem?_eq_getElem hi, hz], i64_of hb⟩
    let num : V → Int := fun v => match v with | .int _ n => n | _ => 0
    have hn : ∀ i, i < cs.length → cs[i]? = some (.int .i64 (num (cs.getD i .undef))) ∧ i64b (num (cs.getD i .undef)) := fun i hi => by
      obtain ⟨z, h1, h2⟩ := hz i hi
      rw [List.getD_eq_getElem?_getD, h1]
      exact ⟨rfl, h2⟩
    let l : List Ar.Arc := (List.range len).map fun i => ⟨num (cs.getD (i * 3) .undef), num (cs.getD (i * 3 + 1) .undef), num (cs.getD (i * 3 + 2) .undef)⟩
    have hll : l.length = len := by simp [l]
    have hcs : cs = l.flatMap Arc.cells := by
      refine List.ext_getElem? fun i => ?_
      by_cases hi : i < cs.length
      · obtain ⟨q, r, rfl, hr⟩ : ∃ q r, i = q * 3 + r ∧ r < 3 := ⟨i / 3, i % 3, by omega, by omega⟩
        have hil : q < l.length := by omega
        rw [arcs_cell l q r l[q] (List.getElem?_eq_getElem hil) hr, (hn _ hi).1]
        simp only [l, List.getElem_map, List.getElem_range, Arc.cells]
        rcases (by omega : r = 0 ∨ r = 1 ∨ r = 2) with rfl | rfl | rfl <;> rfl
      · have := acells_length l
        simp only [acells] at this
        rw [List.getElem?_eq_none (by omega), List.getElem?_eq_none (by omega)]
    refine ⟨l, ⟨by simp [lenOf, hll], ?_⟩, ⟨Nat.le_refl _, cs, .ro, hk, .inl rfl⟩, by omega, fun x hxm => ?_⟩
    · simp only [cellsOf, rdn, hk]
      rw [if_pos (by omega)]
      simp only [List.drop_zero]
      rw [List.take_of_length_le (by omega), ← hcs]
    · obtain ⟨i, hi, rfl⟩ := List.mem_map.1 hxm
      have hi' : i < len := by simpa using hi
      exact ⟨(hn (i * 3) (by omega)).2, (hn (i * 3 + 1) (by omega)).2, (hn (i * 3 + 2) (by omega)).2⟩

/-- A net, handed in: as it is. -/
structure NetIn (H : Heap) (n : Net) (a : V) : Prop where
  al : AL H a n.arcs
  sg : SlG H 3 a
  sl : Sl a
  len : n.arcs.length ≤ maxLen
  bN : i64b n.N
  bS : i64b n.S
  bT : i64b n.T
  arc : ∀ x, x ∈ n.arcs → i64b x.src ∧ i64b x.dst ∧ i64b x.cap
theorem net_in {H : Heap} {ws : List V} (h : cksOk H [.k (.int .i64), .k (.int .i64), .k (.int .i64), .s [.int .i64, .int .i64, .int .i64]] ws) : ∃ n a, V.agg ws = NV n a ∧ NetIn H n a := by
  obtain ⟨u0, us, rfl⟩ : ∃ a b, ws = a :: b := by cases ws with | nil => exact h.elim | cons a b => exact ⟨a, b, rfl⟩
  obtain ⟨h0, h⟩ := h
  obtain ⟨u1, us, rfl⟩ : ∃ a b, us = a :: b := by cases us with | nil => exact h.elim | cons a b => exact ⟨a, b, rfl⟩
  obtain ⟨h1, h⟩ := h
  obtain ⟨u2, us, rfl⟩ : ∃ a b, us = a :: b := by cases us with | nil => exact h.elim | cons a b => exact ⟨a, b, rfl⟩
  obtain ⟨h2, h⟩ := h
  obtain ⟨u3, us, rfl⟩ : ∃ a b, us = a :: b := by cases us with | nil => exact h.elim | cons a b => exact ⟨a, b, rfl⟩
  obtain ⟨h3, h⟩ := h
  obtain rfl : us = [] := by cases us with | nil => rfl | cons a b => exact h.elim
  obtain ⟨N, rfl, b0⟩ : ∃ n, u0 = .int .i64 n ∧ IntKind.i64.min ≤ n ∧ n ≤ IntKind.i64.max := h0
  obtain ⟨S, rfl, b1⟩ : ∃ n, u1 = .int .i64 n ∧ IntKind.i64.min ≤ n ∧ n ≤ IntKind.i64.max := h1
  obtain ⟨T, rfl, b2⟩ : ∃ n, u2 = .int .i64 n ∧ IntKind.i64.min ≤ n ∧ n ≤ IntKind.i64.max := h2
  have h3' : SlOk A3 H u3 := h3
  obtain ⟨l, k1, k2, k3, k4⟩ := SlOk.AL h3'
  exact ⟨⟨N, S, T, l⟩, u3, rfl, k1, k2, SlOk_Sl h3', k3, i64_of b0, i64_of b1, i64_of b2, k4⟩
end Go.Proofs.Ytpojdgeginigjaa
