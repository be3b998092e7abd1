/- Rows by a function; heaps written out. -/
import Derived.Test.YtpojdgeginigjaaAr31
set_option linter.unusedSimpArgs false
set_option linter.unusedVariables false
namespace Go.Ar
variable {E : Env}

/-- A row, by a function. -/
def tb (n : Nat) (g : Nat → V) : List V := (List.range n).map g
theorem tb_len (n : Nat) (g : Nat → V) : (tb n g).length = n := by simp [tb]
theorem tb_get {n i : Nat} {g : Nat → V} (h : i < n) : (tb n g)[i]? = some (g i) := by simp [tb, h]
theorem tb_congr {n : Nat} {g g' : Nat → V} (h : ∀ j, j < n → g j = g' j) : tb n g = tb n g' := by
  unfold tb
  exact List.map_congr_left fun j hj => h j (by simpa using hj)
theorem tb_set (n : Nat) (g : Nat → V) (i : Nat) (v : V) : (tb n g).set i v = tb n (fun j => if j = i then v else g j) := by
  refine List.ext_getElem? fun j => ?_
  by_cases hj : j < n
  · rw [tb_get hj, List.getElem?_set]
    by_cases e : i = j
    · subst e
      simp [tb_len, hj]
    · rw [if_neg e, tb_get hj, if_neg (fun h => e h.symm)]
  · rw [List.getElem?_eq_none (by simp [tb_len]; omega), List.getElem?_eq_none (by simp [tb_len]; omega)]
theorem tb_rep (n : Nat) (v : V) : (List.replicate n [v]).flatten = tb n (fun _ => v) := by
  rw [flatRep]
  refine List.ext_getElem? fun j => ?_
  by_cases hj : j < n
  · rw [tb_get hj]; simp [hj]
  · rw [List.getElem?_eq_none (by simp; omega), List.getElem?_eq_none (by simp [tb_len]; omega)]
theorem tb_int (n : Nat) (q : IntKind) (f : Nat → Int) : ((List.range n).map f).map (V.int q) = tb n fun j => .int q (f j) := by simp [tb]
theorem tb_bool (n : Nat) (f : Nat → Bool) : ((List.range n).map f).map V.bool = tb n fun j => .bool (f j) := by simp [tb]
theorem tb_all {n : Nat} {g : Nat → V} (h : ∀ j, j < n → (g j).scalar = true) : (tb n g).all V.scalar = true := by
  rw [List.all_eq_true]
  intro x hx
  obtain ⟨j, hj, rfl⟩ := List.mem_map.1 hx
  exact h j (by simpa using hj)
theorem int_of_tb (zs : List Int) (q : IntKind) : zs.map (V.int q) = tb zs.length fun j => .int q (zs.getD j 0) := by
  refine List.ext_getElem? fun j => ?_
  by_cases hj : j < zs.length
  · rw [tb_get hj]; simp [hj]
  · rw [List.getElem?_eq_none (by simp; omega), List.getElem?_eq_none (by simp [tb_len]; omega)]
theorem bool_of_tb (zs : List Bool) : zs.map V.bool = tb zs.length fun j => .bool (zs.getD j false) := by
  refine List.ext_getElem? fun j => ?_
  by_cases hj : j < zs.length
  · rw [tb_get hj]; simp [hj]
  · rw [List.getElem?_eq_none (by simp; omega), List.getElem?_eq_none (by simp [tb_len]; omega)]
/-- A row of whole numbers, of bools, by a function: what a slice holds. -/
structure TB (H : Heap) (x : V) (n : Nat) (g : Nat → V) : Prop where
  len : lenOf x = some n
  cells : cellsOf H 1 x = some (tb n g)
theorem TB.app {H : Heap} {x : V} {n : Nat} {g : Nat → V} (h : TB H x n g) (G : Heap) : TB (H ++ G) x n g := let r : Rw H 1 x n (tb n g) := ⟨h.1, h.2⟩; ⟨(r.app G).1, (r.app G).2⟩
theorem TB.at {H : Heap} {x : V} {n : Nat} {g : Nat → V} (h : TB H x n g) {i : Nat} (hi : i < n) : ∃ k o c, x = .sl k o n c ∧ ∀ G, rd (H ++ G) k (o + i) = some (g i) := by
  have r : Rw H 1 x n (tb n g) := ⟨h.1, h.2⟩
  obtain ⟨k, o, c, rfl, _⟩ := r.at1 hi
  refine ⟨k, o, c, rfl, fun G => ?_⟩
  obtain ⟨k', o', c', h1, h2⟩ := (r.app G).at1 hi
  cases h1
  rw [h2, tb_get hi]
theorem IL.tb {q : IntKind} {H : Heap} {x : V} {zs : List Int} (h : IL q H x zs) : TB H x zs.length fun j => .int q (zs.getD j 0) := ⟨h.len, by rw [← int_of_tb]; exact h.cells⟩
theorem BL.tb {H : Heap} {x : V} {zs : List Bool} (h : BL H x zs) : TB H x zs.length fun j => .bool (zs.getD j false) := ⟨h.len, by rw [← bool_of_tb]; exact h.cells⟩
theorem TB.il {q : IntKind} {H : Heap} {x : V} {n : Nat} {f : Nat → Int} (h : TB H x n fun j => .int q (f j)) : IL q H x ((List.range n).map f) := by
  refine ⟨by rw [h.1]; simp, ?_⟩
  rw [tb_int]; exact h.2
theorem TB.bl {H : Heap} {x : V} {n : Nat} {f : Nat → Bool} (h : TB H x n fun j => .bool (f j)) : BL H x ((List.range n).map f) := by
  refine ⟨by rw [h.1]; simp, ?_⟩
  rw [tb_bool]; exact h.2
/-- A row of one's own. -/
theorem TB.own {H G : Heap} {k n c : Nat} {g : Nat → V} {m : Mode} (h : H[k]? = some (.cells (tb n g) m)) : TB H (.sl k 0 n c) n g := by
  refine ⟨rfl, ?_⟩
  simp only [cellsOf, rdn, h]
  rw [if_pos (by simp [tb_len])]
  simp only [List.drop_zero, Nat.mul_one]
  rw [List.take_of_length_le (by simp [tb_len])]
theorem TB.congr {H : Heap} {x : V} {n : Nat} {g g' : Nat → V} (h : TB H x n g) (e : ∀ j, j < n → g j = g' j) : TB H x n g' := ⟨h.1, by rw [h.2, tb_congr e]⟩
theorem getElem?_app0 {H G : Heap} {b : Blk} : (H ++ (b :: G))[H.length]? = some b := by simp
theorem getElem?_appi {H G : Heap} {i : Nat} : (H ++ G)[H.length + i]? = G[i]? := by
  rw [List.getElem?_append_right (by omega)]; congr 1; omega
attribute [simp] tb_len tb_get tb_set tb_rep tb_int tb_bool
/-- A region that draws its order, and lays nothing new, at the end of a piece. -/
theorem wa_drl {ops : List (DM × Ins)} {is : List Ins} {s : St} {Q : Ex → St → Prop} (hp : (ops.all fun o => match o.1 with | .plain => true | _ => false) = true) (hi : ops.map (·.2) = is)
    (h : ∃ s', insL (callL E) is s = some s' ∧ Q .normal s') : WP E (.dreg 0 ops []) s Q := by
  obtain ⟨s', h1, h2⟩ := h
  refine wa_dreg (s' := s') ?_ rfl h2
  subst hi
  rw [dinsL_plain hp]
  simpa using h1
end Go.Ar
