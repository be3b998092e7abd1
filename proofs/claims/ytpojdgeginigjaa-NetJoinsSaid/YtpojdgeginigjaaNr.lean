/- What is left of joined arcs, as their parts are taken off. -/
import Derived.Test.YtpojdgeginigjaaNp
set_option linter.unusedSimpArgs false
set_option linter.unusedVariables false
namespace Go.Proofs.Ytpojdgeginigjaa
open Go Go.Ar

theorem partS_nonneg : ∀ (l : List Ar.Arc) (r : List Int) (k : Int), (∀ x, x ∈ l → 0 ≤ x.cap) → 0 ≤ partS l r k
  | [], _, _, _ => by simp [partS]
  | _ :: _, [], _, _ => by simp [partS]
  | a :: l, j :: r, k, h => by
    have h1 := h a (by simp)
    have h2 := partS_nonneg l r k fun x hx => h x (by simp [hx])
    simp only [partS]
    split <;> omega
theorem partS_take_le : ∀ (l : List Ar.Arc) (r : List Int) (k : Int) (i : Nat), (∀ x, x ∈ l → 0 ≤ x.cap) → partS (l.take i) (r.take i) k ≤ partS l r k
  | [], _, _, _, _ => by simp [partS]
  | _ :: _, [], _, i, _ => by cases i <;> simp [partS]
  | a :: l, j :: r, k, 0, h => by
    have := partS_nonneg (a :: l) (j :: r) k h
    simpa [partS] using this
  | a :: l, j :: r, k, i + 1, h => by
    have := partS_take_le l r k i fun x hx => h x (by simp [hx])
    simp only [List.take_succ_cons, partS]
    omega
theorem partS_step {l : List Ar.Arc} {r : List Int} {i : Nat} (hi : i < l.length) (hl : r.length = l.length) (k : Int) : partS (l.take (i + 1)) (r.take (i + 1)) k = partS (l.take i) (r.take i) k + if r.getD i 0 = k then l[i].cap else 0 := by
  have e1 : l.take (i + 1) = l.take i ++ [l[i]] := by rw [List.take_add_one, List.getElem?_eq_getElem hi]; rfl
  have hr : i < r.length := by omega
  have e2 : r.take (i + 1) = r.take i ++ [r.getD i 0] := by rw [List.take_add_one, List.getElem?_eq_getElem hr, List.getD_eq_getElem?_getD, List.getElem?_eq_getElem hr]; rfl
  rw [e1, e2, partS_snoc _ _ _ _ _ (by simp; omega)]
def leftL (l out : List Ar.Arc) (r : List Int) (i : Nat) : List Ar.Arc := out.mapIdx fun k x => ⟨x.src, x.dst, x.cap - partS (l.take i) (r.take i) k⟩
theorem leftL_length (l out : List Ar.Arc) (r : List Int) (i : Nat) : (leftL l out r i).length = out.length := by simp [leftL]
theorem leftL_get {l out : List Ar.Arc} {r : List Int} {i k : Nat} (hk : k < (leftL l out r i).length) : (leftL l out r i)[k] = ⟨(out[k]'(by simpa [leftL] using hk)).src, (out[k]'(by simpa [leftL] using hk)).dst, (out[k]'(by simpa [leftL] using hk)).cap - partS (l.take i) (r.take i) k⟩ := by simp [leftL]
theorem leftL_zero (l out : List Ar.Arc) (r : List Int) : leftL l out r 0 = out := by
  refine List.ext_getElem (leftL_length _ _ _ _) fun k h1 h2 => ?_
  rw [leftL_get]; simp [partS]
theorem leftL_neg {l out : List Ar.Arc} {r : List Int} {i : Nat} (hi : i < l.length) (hl : r.length = l.length) (hn : r.getD i 0 < 0) : leftL l out r (i + 1) = leftL l out r i := by
  refine List.ext_getElem (by simp [leftL]) fun k h1 h2 => ?_
  rw [leftL_get, leftL_get, partS_step hi hl, if_neg (by omega)]; simp
theorem leftL_step {l out : List Ar.Arc} {r : List Int} {i k : Nat} (hi : i < l.length) (hl : r.length = l.length) (hk : k < (leftL l out r i).length) (hr : r.getD i 0 = k) :
    leftL l out r (i + 1) = (leftL l out r i).set k ⟨(leftL l out r i)[k].src, (leftL l out r i)[k].dst, (leftL l out r i)[k].cap - l[i].cap⟩ := by
  refine List.ext_getElem (by simp [leftL]) fun j h1 h2 => ?_
  have hj : j < (leftL l out r i).length := by simpa [leftL] using h1
  rw [List.getElem_set, leftL_get, partS_step hi hl, hr]
  by_cases e : k = j
  · subst e
    rw [if_pos rfl, if_pos rfl, leftL_get hk]
    simp only [Ar.Arc.mk.injEq, true_and]
    omega
  · rw [if_neg e, if_neg (by omega), leftL_get hj]; simp
theorem leftL_bounds {l out : List Ar.Arc} {r : List Int} {i k : Nat} (h : JI l out r) (hp : ∀ x, x ∈ l → 0 ≤ x.cap) (hk : k < (leftL l out r i).length) : 0 ≤ (leftL l out r i)[k].cap ∧ (leftL l out r i)[k].cap ≤ capS l := by
  have hk' : k < out.length := by simpa [leftL] using hk
  rw [leftL_get hk]
  have h1 := h.cap k hk'
  have h2 := partS_take_le l r k i hp
  have h3 := partS_nonneg (l.take i) (r.take i) k fun x hx => hp x (List.mem_of_mem_take hx)
  have h4 := cap_le out (h.pos hp) _ (List.getElem_mem hk')
  have h5 := h.sum hp
  simp only
  omega
theorem leftL_full {l out : List Ar.Arc} {r : List Int} (h : JI l out r) {k : Nat} (hk : k < (leftL l out r l.length).length) : (leftL l out r l.length)[k].cap = 0 := by
  have hk' : k < out.length := by simpa [leftL] using hk
  rw [leftL_get hk]
  have h1 := h.cap k hk'
  have e1 : l.take l.length = l := List.take_length
  have e2 : r.take l.length = r := by rw [← h.len]; exact List.take_length
  show out[k].cap - partS (l.take l.length) (r.take l.length) k = 0
  have e3 : partS (l.take l.length) (r.take l.length) k = partS l r k := by rw [e1, e2]
  omega
end Go.Proofs.Ytpojdgeginigjaa
