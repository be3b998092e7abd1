/- A script as a state; its steps. -/
import Derived.Test.YteogambpkgkmhaaGc
import Derived.Test.YteogambpkgkmhaaAr26
set_option linter.unusedSimpArgs false
set_option linter.unusedVariables false
namespace Go.Proofs.Yteogambpkgkmhaa
open Go Go.Ar
set_option maxRecDepth 100000

structure PS where
  picks : List Int
  last : Int
  told : List Bool
  ended : Int

def PS.next (s : PS) (done : List Bool) : Option Nat × PS :=
  match firstOf done (beginOf s.picks s.last s.told.length) s.told.length with
  | some w => (some w, ⟨s.picks.tail, w, toldOf s.told done w, endedOf s.told done w s.ended⟩)
  | none => (none, s)

structure Fit (s : PS) (n : Nat) : Prop where
  told : s.told.length = n
  pos : 0 < n
  le : n ≤ 64
  l0 : 0 ≤ s.last
  l1 : s.last < n

theorem tmod_hit {b : Int} {n w : Nat} (hb : 0 ≤ b) (hbn : b < n) (hw : w < n) : ∃ i : Nat, i < n ∧ (b + (i : Int)).tmod (n : Int) = w := by
  obtain ⟨c, rfl⟩ := Int.eq_ofNat_of_zero_le hb
  have hcn : c < n := by omega
  by_cases h : c ≤ w
  · refine ⟨w - c, by omega, ?_⟩
    have : ((c : Int) + ((w - c : Nat) : Int)) = (w : Int) := by omega
    show ((c : Int) + ((w - c : Nat) : Int)).tmod n = w
    rw [this, Int.tmod_eq_of_lt (by omega) (by omega)]
  · refine ⟨w + n - c, by omega, ?_⟩
    show ((c : Int) + ((w + n - c : Nat) : Int)).tmod n = w
    have : ((c : Int) + ((w + n - c : Nat) : Int)) = (w : Int) + n * 1 := by omega
    rw [this, Int.tmod_eq_emod_of_nonneg (by omega), Int.add_mul_emod_self_left, Int.emod_eq_of_lt (by omega) (by omega)]

theorem firstOf_spec {done : List Bool} {b : Int} {n : Nat} (hb : 0 ≤ b) (hbn : b < n) :
    (∃ w, firstOf done b n = some w ∧ w < n ∧ done.getD w false = false) ∨ (firstOf done b n = none ∧ ∀ w, w < n → done.getD w false = true) := by
  cases h : firstOf done b n with
  | some w =>
    refine .inl ⟨w, rfl, ?_⟩
    unfold firstOf at h
    have h1 := List.find?_some h
    have h2 := List.mem_of_find?_eq_some h
    obtain ⟨i, hi, rfl⟩ := List.mem_map.1 h2
    refine ⟨?_, by simpa using h1⟩
    have hp : (0 : Int) < n := by omega
    have := Int.tmod_lt_of_pos (b + (i : Int)) hp
    have h0 : 0 ≤ (b + (i : Int)).tmod (n : Int) := Int.tmod_nonneg _ (by omega)
    omega
  | none =>
    refine .inr ⟨rfl, fun w hw => ?_⟩
    unfold firstOf at h
    rw [List.find?_eq_none] at h
    obtain ⟨i, hi, he⟩ := tmod_hit hb hbn hw
    have := h w (List.mem_map.2 ⟨i, by simpa using hi, by simp only [he]; rfl⟩)
    simpa using this

theorem toldOf_length {told done : List Bool} {w : Nat} : (toldOf told done w).length = told.length := by
  unfold toldOf; split <;> simp

theorem Fit.bounds {s : PS} {n : Nat} (h : Fit s n) : 0 ≤ beginOf s.picks s.last s.told.length ∧ beginOf s.picks s.last s.told.length < s.told.length :=
  begin_bounds (by rw [h.told]; exact h.pos) (by rw [h.told]; exact h.le) h.l0

theorem Fit.next {s : PS} {n : Nat} (h : Fit s n) (done : List Bool) : Fit (s.next done).2 n := by
  have hb := h.bounds
  unfold PS.next
  rcases firstOf_spec (done := done) hb.1 hb.2 with ⟨w, h1, h2, _⟩ | ⟨h1, _⟩ <;> rw [h1] <;> dsimp only
  · exact ⟨by rw [toldOf_length]; exact h.told, h.pos, h.le, by simp, by have := h.told; simp only; omega⟩
  · exact h
/-- Whose step it is: somebody who is not done; nobody, if all are. -/
theorem Fit.who {s : PS} {n : Nat} (h : Fit s n) (done : List Bool) : (∃ w, (s.next done).1 = some w ∧ w < n ∧ done.getD w false = false ∧ (s.next done).2 = ⟨s.picks.tail, w, toldOf s.told done w, endedOf s.told done w s.ended⟩) ∨ ((s.next done).1 = none ∧ (s.next done).2 = s ∧ ∀ w, w < n → done.getD w false = true) := by
  have hb := h.bounds
  unfold PS.next
  rcases firstOf_spec (done := done) hb.1 hb.2 with ⟨w, h1, h2, h3⟩ | ⟨h1, h2⟩ <;> rw [h1] <;> dsimp only
  · exact .inl ⟨w, rfl, by rw [h.told] at h2; exact h2, h3, rfl⟩
  · exact .inr ⟨rfl, rfl, fun w hw => h2 w (by rw [h.told]; exact hw)⟩

/-- A script in memory; its picks lie in block pb, if anywhere. -/
def SS (H : Heap) (q kt pb : Nat) (s : PS) : Prop := ∃ p, Sc H q kt p s.picks s.last s.told s.ended ∧ ∀ k, p.blk? = some k → k = pb
namespace SS
variable {H H' : Heap} {q kt pb n : Nat} {s : PS}
theorem frame (h : SS H q kt pb s) (e1 : H'[q]? = H[q]?) (e2 : H'[kt]? = H[kt]?) (e3 : H'[pb]? = H[pb]?) (hl : H.length ≤ H'.length) : SS H' q kt pb s := by
  obtain ⟨p, h1, h2⟩ := h
  exact ⟨p, h1.via e1 e2 (fun k hk => by rw [h2 k hk]; exact e3) hl, h2⟩
theorem q_lt (h : SS H q kt pb s) : q < H.length := by obtain ⟨p, h1, _⟩ := h; exact (List.getElem?_eq_some_iff.1 h1.hq).1
theorem kt_lt (h : SS H q kt pb s) : kt < H.length := by obtain ⟨p, h1, _⟩ := h; exact (List.getElem?_eq_some_iff.1 h1.ht).1
theorem left (h : SS H q kt pb s) (hf : Fit s n) : callL E (.f 9) [.ptr q 0] H = some (.int .i64 s.picks.length, H) := by
  obtain ⟨p, h1, _⟩ := h
  exact left_ok h1.r0 h1.r2 h1.bl h1.hp h1.pos
theorem rounds (h : SS H q kt pb s) (hf : Fit s n) : callL E (.f 14) [.ptr q 0] H = some (.int .i64 s.ended, H) := by
  obtain ⟨p, h1, _⟩ := h
  exact rounds_ok h1.r2 h1.r3 h1.bl h1.pos
theorem next (h : SS H q kt pb s) (hf : Fit s n) {d : V} {done : List Bool} (hd : BL H d done) (hdq : ∀ k, d.blk? = some k → k ≠ q ∧ k ≠ kt) :
    ∃ H', callL E (.f 10) [.ptr q 0, d] H = some (.tup [.int .i64 ((s.next done).1.getD 0 : Nat), .bool (s.next done).1.isSome], H') ∧ H.length ≤ H'.length ∧ (∀ k, k < H.length → k ≠ q → k ≠ kt → H'[k]? = H[k]?) ∧ SS H' q kt pb (s.next done).2 := by
  obtain ⟨p, h1, h2⟩ := h
  have hn := hf.told
  have h64 := hf.le
  obtain ⟨v, H', c1, c2, c3, c4⟩ := next_ok h1 hd (fun k hk => ⟨(hdq k hk).1, (hdq k hk).2, Rw.lt hd k hk⟩) (by omega) (w64 (by have := hf.l0; omega) (by have := hf.l1; omega)) hf.bounds
  refine ⟨H', ?_, c2, c3, ?_⟩
  · unfold PS.next
    split at c4
    · rename_i w hw
      rw [hw]
      rw [c1, c4.1]; rfl
    · rename_i hw
      rw [hw]
      rw [c1, c4.1]; rfl
  · unfold PS.next
    split at c4
    · rename_i w hw
      rw [hw]
      obtain ⟨_, p', hp', hs⟩ := c4
      exact ⟨p', hs, fun k hk => h2 k (hp' k hk)⟩
    · rename_i hw
      rw [hw]
      exact ⟨p, c4.2, h2⟩
end SS

def new0 (n : Nat) (zs : List Int) : PS := ⟨zs, n - 1, List.replicate n false, 0⟩
theorem fit_new {n : Nat} (zs : List Int) (h1 : 1 ≤ n) (h64 : n ≤ 64) : Fit (new0 n zs) n := ⟨by simp [new0], by omega, h64, by simp [new0]; omega, by simp [new0]; omega⟩
theorem ss_new {H : Heap} {x : V} {n : Nat} {zs : List Int} (hx : x = .nils ∨ ∃ k o l c, x = .sl k o l c) (h : IL .i64 H x zs) (hz : zs.length ≤ 2 ^ 20) (h1 : 1 ≤ n) (h64 : n ≤ 64) :
    ∃ pb H', callL E (.f 8) [.int .i64 n, x] H = some (.tup [.ptr (H.length + 1) 0, .int .i64 0], H') ∧ H.length + 2 ≤ H'.length ∧ (∀ j, j < H.length → H'[j]? = H[j]?) ∧ H.length ≤ pb ∧ pb < H'.length ∧ SS H' (H.length + 1) H.length pb (new0 n zs) := by
  obtain ⟨p, H', c1, c2, c3, c4, c5⟩ := new_ok hx h hz h1 h64
  cases hp : p.blk? with
  | none => exact ⟨H.length, H', c1, c2, c3, by omega, by omega, p, c5, fun k hk => by rw [hp] at hk; cases hk⟩
  | some k =>
    have h3 := c4 k hp
    have h4 := c5.plt k hp
    exact ⟨k, H', c1, c2, c3, h3, h4, p, c5, fun j hj => by rw [hp] at hj; cases hj; rfl⟩

/-- What is owned, behind a step that wrote two blocks alone. -/
theorem Hp_fr {H0 H H' : Heap} {L : List (Nat × Blk)} {q kt : Nat} (h : Hp H0 H L) (hl : H.length ≤ H'.length) (hf : ∀ k, k < H.length → k ≠ q → k ≠ kt → H'[k]? = H[k]?) (hq : H0.length ≤ q) (hkt : H0.length ≤ kt) (hn : ∀ p, p ∈ L → p.1 ≠ q ∧ p.1 ≠ kt) : Hp H0 H' L := by
  refine ⟨Nat.le_trans h.le hl, fun k hk => ?_, fun p hp => ⟨(h.own p hp).1, ?_⟩, h.nd⟩
  · rw [hf k (by have := h.le; omega) (by omega) (by omega)]; exact h.old k hk
  · have h1 := (h.own p hp).2
    rw [hf p.1 (List.getElem?_eq_some_iff.1 h1).1 (hn p hp).1 (hn p hp).2]; exact h1

/-- A row that is filled from the front. -/
def fillL {α : Type} (f : Nat → α) (d : α) (n i : Nat) : List α := (List.range n).map fun j => if j < i then f j else d
theorem fillL_length {α : Type} (f : Nat → α) (d : α) (n i : Nat) : (fillL f d n i).length = n := by simp [fillL]
theorem fillL_zero {α : Type} (f : Nat → α) (d : α) (n : Nat) : fillL f d n 0 = List.replicate n d := by
  refine List.ext_getElem (by simp [fillL]) fun i h1 h2 => by simp [fillL]
theorem fillL_set {α : Type} (f : Nat → α) (d : α) (n i : Nat) (hi : i < n) : (fillL f d n i).set i (f i) = fillL f d n (i + 1) := by
  refine List.ext_getElem (by simp [fillL]) fun j h1 h2 => ?_
  simp [fillL] at h1 h2
  rw [List.getElem_set]
  by_cases e : i = j
  · subst e; simp [fillL]
  · rw [if_neg e]
    simp only [fillL, List.getElem_map, List.getElem_range]
    by_cases h : j < i
    · rw [if_pos h, if_pos (by omega)]
    · rw [if_neg h, if_neg (by omega)]
theorem fillL_full {α : Type} (f : Nat → α) (d : α) (n : Nat) : fillL f d n n = (List.range n).map f := by
  refine List.ext_getElem (by simp [fillL]) fun j h1 h2 => ?_
  simp [fillL] at h1 ⊢
  omega
theorem fillL_getD {α : Type} (f : Nat → α) (d e : α) (n i j : Nat) (hj : j < n) : (fillL f d n i).getD j e = if j < i then f j else d := by
  simp [fillL, hj]
end Go.Proofs.Yteogambpkgkmhaa
