/- Residual arcs: where they stand; the plain law. -/
import Derived.Test.YtpojdgeginigjaaME
import Derived.Test.YtpojdgeginigjaaMC
import Derived.Test.YtpojdgeginigjaaProg
import Derived.KernelRfl
set_option linter.unusedSimpArgs false
set_option linter.unusedVariables false
namespace Go.Proofs.Ytpojdgeginigjaa
open Go Go.Ar

/-- An arc that is at a vertex, and not from it to itself. -/
def inc (v : Nat) (a : Ar.Arc) : Bool := a.src != a.dst && (a.src == (v : Int) || a.dst == (v : Int))
theorem inc_iff {v : Nat} {a : Ar.Arc} : inc v a = true ↔ a.src ≠ a.dst ∧ (a.src = v ∨ a.dst = v) := by simp [inc]
def deg (l : List Ar.Arc) (v : Nat) : Nat := l.countP (inc v)
/-- Where a vertex's residual arcs begin. -/
def fst (l : List Ar.Arc) : Nat → Nat
  | 0 => 0
  | v + 1 => fst l v + deg l v
/-- Where the residual arc of arc k at v stands. -/
def pos (l : List Ar.Arc) (k v : Nat) : Nat := fst l v + deg (l.take k) v

theorem deg_take_succ (l : List Ar.Arc) (k v : Nat) (hk : k < l.length) : deg (l.take (k + 1)) v = deg (l.take k) v + if inc v l[k] = true then 1 else 0 := by
  unfold deg
  rw [List.take_add_one, List.getElem?_eq_getElem hk, List.countP_append]
  simp only [Option.toList, List.countP_cons, List.countP_nil]
  split <;> simp_all
theorem deg_take_le (l : List Ar.Arc) (i j v : Nat) (h : i ≤ j) : deg (l.take i) v ≤ deg (l.take j) v := by
  unfold deg
  have : l.take i = (l.take j).take i := by rw [List.take_take, Nat.min_eq_left h]
  rw [this]
  exact (List.take_sublist i (l.take j)).countP_le
theorem deg_take_le' (l : List Ar.Arc) (i v : Nat) : deg (l.take i) v ≤ deg l v := (List.take_sublist i l).countP_le
theorem fst_mono (l : List Ar.Arc) {u v : Nat} (h : u ≤ v) : fst l u ≤ fst l v := by
  induction v with
  | zero => have : u = 0 := by omega
            subst this; exact Nat.le_refl _
  | succ v ih =>
    by_cases e : u = v + 1
    · subst e; exact Nat.le_refl _
    · have := ih (by omega)
      simp only [fst]; omega
theorem pos_ge (l : List Ar.Arc) (k v : Nat) : fst l v ≤ pos l k v := Nat.le_add_right _ _
theorem pos_lt {l : List Ar.Arc} {k v : Nat} (hk : k < l.length) (hi : inc v l[k] = true) : pos l k v < fst l (v + 1) := by
  have h1 := deg_take_succ l k v hk
  rw [if_pos hi] at h1
  have h2 := deg_take_le' l (k + 1) v
  simp only [pos, fst]; omega
theorem pos_succ {l : List Ar.Arc} {k v : Nat} (hk : k < l.length) : pos l (k + 1) v = pos l k v + if inc v l[k] = true then 1 else 0 := by
  simp only [pos, deg_take_succ l k v hk]; omega
theorem pos_mono {l : List Ar.Arc} {i j v : Nat} (h : i ≤ j) : pos l i v ≤ pos l j v := by
  have := deg_take_le l i j v h
  simp only [pos]; omega
theorem pos_lt_pos {l : List Ar.Arc} {i j v : Nat} (hi : i < l.length) (hin : inc v l[i] = true) (h : i < j) : pos l i v < pos l j v := by
  have h1 := pos_succ (v := v) hi
  rw [if_pos hin] at h1
  have h2 := pos_mono (l := l) (v := v) (show i + 1 ≤ j from h)
  omega
/-- Two residual arcs at one place are one. -/
theorem pos_inj {l : List Ar.Arc} {i j u v : Nat} (hi : i < l.length) (hj : j < l.length) (h1 : inc u l[i] = true) (h2 : inc v l[j] = true) (h : pos l i u = pos l j v) : i = j ∧ u = v := by
  have huv : u = v := by
    rcases Nat.lt_trichotomy u v with h3 | h3 | h3
    · have a1 := pos_lt hi h1
      have a2 := fst_mono l (show u + 1 ≤ v from h3)
      have a3 := pos_ge l j v
      omega
    · exact h3
    · have a1 := pos_lt hj h2
      have a2 := fst_mono l (show v + 1 ≤ u from h3)
      have a3 := pos_ge l i u
      omega
  subst huv
  refine ⟨?_, rfl⟩
  rcases Nat.lt_trichotomy i j with h3 | h3 | h3
  · have := pos_lt_pos (l := l) hi h1 h3; omega
  · exact h3
  · have := pos_lt_pos (l := l) hj h2 h3; omega
/-- At each place one stands. -/
theorem fst_find (l : List Ar.Arc) {a : Nat} : ∀ {N : Nat}, a < fst l N → ∃ v, v < N ∧ fst l v ≤ a ∧ a < fst l (v + 1)
  | 0, h => by simp [fst] at h
  | N + 1, h => by
    by_cases h1 : a < fst l N
    · obtain ⟨v, h2, h3⟩ := fst_find l h1
      exact ⟨v, by omega, h3⟩
    · exact ⟨N, by omega, by omega, h⟩
theorem deg_find (l : List Ar.Arc) (v : Nat) {d : Nat} : ∀ {m : Nat}, m ≤ l.length → d < deg (l.take m) v → ∃ k, ∃ hk : k < l.length, inc v l[k] = true ∧ deg (l.take k) v = d
  | 0, _, h => by simp [deg] at h
  | m + 1, hm, h => by
    have h1 := deg_take_succ l m v (by omega)
    by_cases h2 : d < deg (l.take m) v
    · exact deg_find l v (by omega) h2
    · by_cases h3 : inc v (l[m]'(by omega)) = true
      · rw [if_pos h3] at h1
        exact ⟨m, by omega, h3, by omega⟩
      · rw [if_neg h3] at h1; omega
theorem pos_find (l : List Ar.Arc) {a N : Nat} (h : a < fst l N) : ∃ k v, ∃ hk : k < l.length, v < N ∧ inc v l[k] = true ∧ a = pos l k v := by
  obtain ⟨v, h1, h2, h3⟩ := fst_find l h
  have h4 : a - fst l v < deg (l.take l.length) v := by rw [List.take_length]; simp only [fst] at h3; omega
  obtain ⟨k, hk, h5, h6⟩ := deg_find l v (Nat.le_refl _) h4
  exact ⟨k, v, hk, h1, h5, by simp only [pos]; omega⟩
theorem deg_le (l : List Ar.Arc) (v : Nat) : deg l v ≤ l.length := List.countP_le_length
theorem fst_le (l : List Ar.Arc) : ∀ v, fst l v ≤ v * l.length
  | 0 => by simp [fst]
  | v + 1 => by
    have h1 := fst_le l v
    have h2 := deg_le l v
    simp only [fst, Nat.add_mul, Nat.one_mul]; omega
end Go.Proofs.Ytpojdgeginigjaa
/- The flat code of functions. -/
set_option linter.unusedSimpArgs false
set_option linter.unusedVariables false
namespace Go.Proofs.Ytpojdgeginigjaa
open Go Go.Ar
set_option maxRecDepth 100000
def gc45 : MC := (.seq (.reg [⟨(.some 2), (.box 4 (.t 0)), .none⟩, ⟨(.some 4), (.mv (.c .nils)), .none⟩]) (.seq (.reg [⟨(.some 9), (.fadr 3 (.t 2)), .none⟩, ⟨(.some 10), (.load 1 .false (.t 9)), .none⟩, ⟨(.some 11), (.len (.t 10)), .none⟩, ⟨(.some 12), (.mkslice 1 8 [(.int .i64 0)] (.t 11)), .none⟩, ⟨(.some 5), (.mv (.t 12)), .none⟩]) (.seq (.reg [⟨(.some 13), (.fadr 3 (.t 2)), .none⟩, ⟨(.some 14), (.load 1 .false (.t 13)), .none⟩, ⟨(.some 15), (.len (.t 14)), .none⟩, ⟨(.some 16), (.mv (.c (.int .i64 0))), .none⟩]) (.seq (.block 0 (.loop (.seq (.reg [⟨(.some 17), (.bin .lss (.t 16) (.t 15)), .none⟩]) (.seq (.cond (.t 17) .skip (.exit 0)) (.seq (.block 1 (.seq (.reg [⟨(.some 18), (.mv (.t 16)), .none⟩, ⟨(.some 19), (.iadr 3 (.t 14) (.t 16)), .none⟩, ⟨(.some 20), (.load 3 .true (.t 19)), .none⟩, ⟨(.some 7), (.alloc [(.int .i64 0), (.int .i64 0), (.int .i64 0)]), .none⟩, ⟨(.some 6), (.mv (.t 18)), .none⟩, ⟨.none, (.store 3 (.t 7) (.t 20)), .none⟩]) (.seq (.reg [⟨(.some 21), (.mv (.t 6)), .none⟩, ⟨(.some 22), (.mv (.t 1)), .none⟩, ⟨(.some 23), (.len (.t 22)), .none⟩, ⟨(.some 24), (.bin .geq (.t 21) (.t 23)), .none⟩, ⟨(.some 25), (.mv (.t 24)), .none⟩, ⟨(.some 26), (.fadr 0 (.t 7)), (.some (25, .false))⟩, ⟨(.some 27), (.load 1 .false (.t 26)), (.some (25, .false))⟩, ⟨(.some 28), (.fadr 1 (.t 7)), (.some (25, .false))⟩, ⟨(.some 29), (.load 1 .false (.t 28)), (.some (25, .false))⟩, ⟨(.some 30), (.bin .eql (.t 27) (.t 29)), (.some (25, .false))⟩, ⟨(.some 31), (.pick (.t 25) (.c (.bool .true)) (.t 30)), .none⟩]) (.seq (.cond (.t 31) (.exit 1) .skip) (.seq (.reg [⟨(.some 32), (.mv (.t 1)), .none⟩, ⟨(.some 33), (.mv (.t 6)), .none⟩, ⟨(.some 34), (.iadr 1 (.t 32) (.t 33)), .none⟩, ⟨(.some 35), (.load 1 .false (.t 34)), .none⟩, ⟨(.some 8), (.mv (.t 35)), .none⟩]) (.seq (.reg [⟨(.some 36), (.mv (.t 8)), .none⟩, ⟨(.some 37), (.bin .lss (.t 36) (.c (.int .i64 0))), .none⟩]) (.seq (.cond (.t 37) (.reg [⟨(.some 38), (.mv (.t 8)), .none⟩, ⟨(.some 39), (.bin .add (.t 38) (.c (.int .i64 1))), .none⟩, ⟨(.some 40), (.neg (.t 39)), .none⟩, ⟨(.some 8), (.mv (.t 40)), .none⟩]) .skip) (.seq (.reg [⟨(.some 41), (.fadr 2 (.t 7)), .none⟩, ⟨(.some 42), (.load 1 .false (.t 41)), .none⟩, ⟨(.some 43), (.bin .lss (.t 42) (.c (.int .i64 4611686018427387904))), .none⟩]) (.seq (.cond (.t 43) (.reg [⟨(.some 44), (.mv (.t 8)), .none⟩, ⟨(.some 45), (.fadr 2 (.t 7)), .none⟩, ⟨(.some 46), (.load 1 .false (.t 45)), .none⟩, ⟨(.some 47), (.bin .add (.t 46) (.c (.int .i64 1))), .none⟩, ⟨(.some 48), (.bin .rem (.t 44) (.t 47)), .none⟩, ⟨(.some 8), (.mv (.t 48)), .none⟩]) .skip) (.reg [⟨(.some 49), (.mv (.t 5)), .none⟩, ⟨(.some 50), (.mv (.t 6)), .none⟩, ⟨(.some 51), (.mv (.t 8)), .none⟩, ⟨(.some 52), (.fadr 2 (.t 7)), .none⟩, ⟨(.some 53), (.load 1 .false (.t 52)), .none⟩, ⟨(.some 54), (.mn (.t 51) (.t 53)), .none⟩, ⟨(.some 55), (.iadr 1 (.t 49) (.t 50)), .none⟩, ⟨.none, (.store 1 (.t 55) (.t 54)), .none⟩])))))))))) (.reg [⟨(.some 56), (.bin .add (.t 16) (.c (.int .i64 1))), .none⟩, ⟨(.some 16), (.mv (.t 56)), .none⟩])))))) (.seq (.reg [⟨(.some 57), (.mv (.t 5)), .none⟩, ⟨(.some 4), (.mv (.t 57)), .none⟩]) .ret)))))
theorem nc45 : nc Try.prog 45 = some (2, [(.t 4)], gc45) := by kernel_rfl
def gc46 : MC := (.seq (.reg [⟨(.some 1), (.box 4 (.t 0)), .none⟩, ⟨(.some 2), (.alloc [(.int .i64 0), (.int .i64 0), (.int .i64 0), .nils, .nils, .nils, .nils, .nils, .nils]), .none⟩, ⟨(.some 3), (.mv (.c (.int .i64 0))), .none⟩]) (.seq (.reg [⟨(.some 13), (.load 4 .true (.t 1)), .none⟩, ⟨(.some 14), (.call (.c (.fn 28 [] [])) [(.t 13)]), .none⟩, ⟨(.some 4), (.mv (.t 14)), .none⟩]) (.seq (.reg [⟨(.some 15), (.mv (.t 4)), .none⟩, ⟨(.some 16), (.bin .neq (.t 15) (.c (.int .i64 0))), .none⟩]) (.seq (.cond (.t 16) (.seq (.reg [⟨(.some 17), (.build [(.int .i64 0), (.int .i64 0), (.int .i64 0), .nils, .nils, .nils, .nils, .nils, .nils] []), .none⟩, ⟨(.some 18), (.mv (.t 4)), .none⟩, ⟨.none, (.store 9 (.t 2) (.t 17)), .none⟩, ⟨(.some 3), (.mv (.t 18)), .none⟩]) .ret) .skip) (.seq (.dreg 1 [(.plain, ⟨(.some 19), (.fadr 0 (.t 1)), .none⟩), (.plain, ⟨(.some 20), (.load 1 .false (.t 19)), .none⟩), (.plain, ⟨(.some 21), (.fadr 1 (.t 1)), .none⟩), (.plain, ⟨(.some 22), (.load 1 .false (.t 21)), .none⟩), (.plain, ⟨(.some 23), (.fadr 2 (.t 1)), .none⟩), (.plain, ⟨(.some 24), (.load 1 .false (.t 23)), .none⟩), (.plain, ⟨(.some 25), (.load 4 .true (.t 1)), .none⟩), ((.pcall [0]), ⟨(.some 26), (.call (.c (.fn 89 [] [])) [(.t 25)]), .none⟩), (.plain, ⟨(.some 27), (.build [(.int .i64 0), (.int .i64 0), (.int .i64 0), .nils, .nils, .nils, .nils, .nils, .nils] [(0, (1, (.t 20))), (1, (1, (.t 22))), (2, (1, (.t 24))), (3, (1, (.t 26)))]), .none⟩), ((.hole 0), ⟨(.some 5), (.alloc [(.int .i64 0), (.int .i64 0), (.int .i64 0), .nils, .nils, .nils, .nils, .nils, .nils]), .none⟩), (.plain, ⟨.none, (.store 9 (.t 5) (.t 27)), .none⟩)] [(.nh (.t 19) 0), (.nh (.t 21) 0), (.nh (.t 23) 0), (.nh (.t 1) 0)]) (.seq (.reg [⟨(.some 28), (.fadr 3 (.t 5)), .none⟩, ⟨(.some 29), (.load 1 .false (.t 28)), .none⟩, ⟨(.some 30), (.fadr 0 (.t 1)), .none⟩, ⟨(.some 31), (.load 1 .false (.t 30)), .none⟩, ⟨(.some 32), (.iadr 1 (.t 29) (.t 31)), .none⟩, ⟨(.some 33), (.load 1 .false (.t 32)), .none⟩, ⟨(.some 6), (.mv (.t 33)), .none⟩]) (.seq (.dreg 5 [(.plain, ⟨(.some 34), (.mv (.t 6)), .none⟩), ((.hole 0), ⟨(.some 35), (.mkslice 1 8 [(.int .i64 0)] (.t 34)), .none⟩), (.plain, ⟨(.some 36), (.mv (.t 6)), .none⟩), ((.hole 1), ⟨(.some 37), (.mkslice 1 8 [(.int .i64 0)] (.t 36)), .none⟩), (.plain, ⟨(.some 38), (.mv (.t 6)), .none⟩), ((.hole 2), ⟨(.some 39), (.mkslice 1 8 [(.int .i64 0)] (.t 38)), .none⟩), (.plain, ⟨(.some 40), (.mv (.t 6)), .none⟩), ((.hole 3), ⟨(.some 41), (.mkslice 1 8 [(.int .i64 0)] (.t 40)), .none⟩), (.plain, ⟨(.some 42), (.mv (.t 6)), .none⟩), ((.hole 4), ⟨(.some 43), (.mkslice 1 1 [(.bool .false)] (.t 42)), .none⟩), (.plain, ⟨(.some 44), (.fadr 4 (.t 5)), .none⟩), (.plain, ⟨.none, (.store 1 (.t 44) (.t 35)), .none⟩), (.plain, ⟨(.some 45), (.fadr 5 (.t 5)), .none⟩), (.plain, ⟨.none, (.store 1 (.t 45) (.t 37)), .none⟩), (.plain, ⟨(.some 46), (.fadr 6 (.t 5)), .none⟩), (.plain, ⟨.none, (.store 1 (.t 46) (.t 39)), .none⟩), (.plain, ⟨(.some 47), (.fadr 7 (.t 5)), .none⟩), (.plain, ⟨.none, (.store 1 (.t 47) (.t 41)), .none⟩), (.plain, ⟨(.some 48), (.fadr 8 (.t 5)), .none⟩), (.plain, ⟨.none, (.store 1 (.t 48) (.t 43)), .none⟩)] [(.nh (.t 44) 1), (.nh (.t 44) 2), (.nh (.t 45) 2), (.nh (.t 44) 3), (.nh (.t 45) 3), (.nh (.t 46) 3), (.nh (.t 44) 4), (.nh (.t 45) 4), (.nh (.t 46) 4), (.nh (.t 47) 4)]) (.seq (.reg [⟨(.some 49), (.fadr 3 (.t 5)), .none⟩, ⟨(.some 50), (.load 1 .false (.t 49)), .none⟩, ⟨(.some 51), (.call (.c (.fn 90 [] [])) [(.t 50)]), .none⟩, ⟨(.some 7), (.alloc [.nils]), .none⟩, ⟨.none, (.store 1 (.t 7) (.t 51)), .none⟩]) (.seq (.reg [⟨(.some 52), (.mkfn 91 [] [(.t 7), (.t 5)]), .none⟩, ⟨(.some 8), (.mv (.t 52)), .none⟩]) (.seq (.reg [⟨(.some 53), (.fadr 3 (.t 1)), .none⟩, ⟨(.some 54), (.load 1 .false (.t 53)), .none⟩, ⟨(.some 55), (.len (.t 54)), .none⟩, ⟨(.some 56), (.mv (.c (.int .i64 0))), .none⟩]) (.seq (.block 0 (.loop (.seq (.reg [⟨(.some 57), (.bin .lss (.t 56) (.t 55)), .none⟩]) (.seq (.cond (.t 57) .skip (.exit 0)) (.seq (.block 1 (.seq (.reg [⟨(.some 58), (.mv (.t 56)), .none⟩, ⟨(.some 59), (.iadr 3 (.t 54) (.t 56)), .none⟩, ⟨(.some 60), (.load 3 .true (.t 59)), .none⟩, ⟨(.some 10), (.alloc [(.int .i64 0), (.int .i64 0), (.int .i64 0)]), .none⟩, ⟨(.some 9), (.mv (.t 58)), .none⟩, ⟨.none, (.store 3 (.t 10) (.t 60)), .none⟩]) (.seq (.reg [⟨(.some 61), (.fadr 0 (.t 10)), .none⟩, ⟨(.some 62), (.load 1 .false (.t 61)), .none⟩, ⟨(.some 63), (.fadr 1 (.t 10)), .none⟩, ⟨(.some 64), (.load 1 .false (.t 63)), .none⟩, ⟨(.some 65), (.bin .eql (.t 62) (.t 64)), .none⟩]) (.seq (.cond (.t 65) (.exit 1) .skip) (.seq (.reg [⟨(.some 66), (.mv (.t 8)), .none⟩, ⟨(.some 67), (.fadr 0 (.t 10)), .none⟩, ⟨(.some 68), (.load 1 .false (.t 67)), .none⟩, ⟨(.some 69), (.fadr 1 (.t 10)), .none⟩, ⟨(.some 70), (.load 1 .false (.t 69)), .none⟩, ⟨(.some 71), (.fadr 2 (.t 10)), .none⟩, ⟨(.some 72), (.load 1 .false (.t 71)), .none⟩, ⟨(.some 73), (.mv (.t 9)), .none⟩, ⟨(.some 74), (.call (.t 66) [(.t 68), (.t 70), (.t 72), (.t 73), (.c (.bool .false))]), .none⟩, ⟨(.some 11), (.mv (.t 74)), .none⟩]) (.seq (.reg [⟨(.some 75), (.mv (.t 8)), .none⟩, ⟨(.some 76), (.fadr 1 (.t 10)), .none⟩, ⟨(.some 77), (.load 1 .false (.t 76)), .none⟩, ⟨(.some 78), (.fadr 0 (.t 10)), .none⟩, ⟨(.some 79), (.load 1 .false (.t 78)), .none⟩, ⟨(.some 80), (.mv (.t 9)), .none⟩, ⟨(.some 81), (.call (.t 75) [(.t 77), (.t 79), (.c (.int .i64 0)), (.t 80), (.c (.bool .true))]), .none⟩, ⟨(.some 12), (.mv (.t 81)), .none⟩]) (.dreg 0 [(.plain, ⟨(.some 82), (.fadr 5 (.t 5)), .none⟩), (.plain, ⟨(.some 83), (.load 1 .false (.t 82)), .none⟩), (.plain, ⟨(.some 84), (.mv (.t 11)), .none⟩), (.plain, ⟨(.some 85), (.fadr 5 (.t 5)), .none⟩), (.plain, ⟨(.some 86), (.load 1 .false (.t 85)), .none⟩), (.plain, ⟨(.some 87), (.mv (.t 12)), .none⟩), (.plain, ⟨(.some 88), (.mv (.t 12)), .none⟩), (.plain, ⟨(.some 89), (.mv (.t 11)), .none⟩), (.plain, ⟨(.some 90), (.iadr 1 (.t 83) (.t 84)), .none⟩), (.plain, ⟨.none, (.store 1 (.t 90) (.t 88)), .none⟩), (.plain, ⟨(.some 91), (.iadr 1 (.t 86) (.t 87)), .none⟩), (.plain, ⟨.none, (.store 1 (.t 91) (.t 89)), .none⟩)] [(.ne (.t 85) (.t 90))]))))))) (.reg [⟨(.some 92), (.bin .add (.t 56) (.c (.int .i64 1))), .none⟩, ⟨(.some 56), (.mv (.t 92)), .none⟩])))))) (.seq (.reg [⟨(.some 93), (.load 9 .true (.t 5)), .none⟩, ⟨.none, (.store 9 (.t 2) (.t 93)), .none⟩, ⟨(.some 3), (.mv (.c (.int .i64 0))), .none⟩]) .ret))))))))))))
theorem nc46 : nc Try.prog 46 = some (1, [(.c 2 9 .true), (.t 3)], gc46) := by kernel_rfl
def gc47 : MC := (.seq (.reg [⟨(.some 2), (.box 9 (.t 0)), .none⟩, ⟨(.some 4), (.mv (.c .nils)), .none⟩, ⟨(.some 5), (.mv (.c (.int .i64 0))), .none⟩]) (.seq (.reg [⟨(.some 9), (.load 9 .true (.t 2)), .none⟩, ⟨(.some 10), (.call (.c (.fn 49 [] [])) [(.t 9)]), .none⟩, ⟨(.some 11), (.mkslice 1 8 [(.int .i64 0)] (.t 10)), .none⟩, ⟨(.some 6), (.mv (.t 11)), .none⟩]) (.seq (.reg [⟨(.some 12), (.mv (.t 6)), .none⟩, ⟨(.some 13), (.len (.t 12)), .none⟩, ⟨(.some 14), (.mv (.c (.int .i64 0))), .none⟩]) (.seq (.block 0 (.loop (.seq (.reg [⟨(.some 15), (.bin .lss (.t 14) (.t 13)), .none⟩]) (.seq (.cond (.t 15) .skip (.exit 0)) (.seq (.block 1 (.seq (.reg [⟨(.some 16), (.mv (.t 14)), .none⟩, ⟨(.some 7), (.mv (.t 16)), .none⟩]) (.seq (.reg [⟨(.some 17), (.fadr 7 (.t 2)), .none⟩, ⟨(.some 18), (.load 1 .false (.t 17)), .none⟩, ⟨(.some 19), (.mv (.t 7)), .none⟩, ⟨(.some 20), (.iadr 1 (.t 18) (.t 19)), .none⟩, ⟨(.some 21), (.load 1 .false (.t 20)), .none⟩, ⟨(.some 8), (.mv (.t 21)), .none⟩]) (.block 2 (.seq (.reg [⟨(.some 36), (.mv (.t 8)), .none⟩, ⟨(.some 37), (.mv (.t 1)), .none⟩, ⟨(.some 38), (.len (.t 37)), .none⟩, ⟨(.some 39), (.bin .geq (.t 36) (.t 38)), .none⟩, ⟨(.some 35), (.mv (.t 39)), .none⟩]) (.cond (.t 35) (.seq (.reg [⟨(.some 4), (.mv (.c .nils)), .none⟩, ⟨(.some 5), (.mv (.c (.int .i64 20))), .none⟩]) .ret) (.seq (.reg [⟨(.some 41), (.fadr 8 (.t 2)), .none⟩, ⟨(.some 42), (.load 1 .false (.t 41)), .none⟩, ⟨(.some 43), (.mv (.t 7)), .none⟩, ⟨(.some 44), (.iadr 1 (.t 42) (.t 43)), .none⟩, ⟨(.some 45), (.load 1 .false (.t 44)), .none⟩, ⟨(.some 40), (.mv (.t 45)), .none⟩]) (.cond (.t 40) (.reg [⟨(.some 46), (.mv (.t 6)), .none⟩, ⟨(.some 47), (.mv (.t 7)), .none⟩, ⟨(.some 48), (.mv (.t 1)), .none⟩, ⟨(.some 49), (.mv (.t 8)), .none⟩, ⟨(.some 50), (.iadr 1 (.t 48) (.t 49)), .none⟩, ⟨(.some 51), (.load 1 .false (.t 50)), .none⟩, ⟨(.some 52), (.iadr 1 (.t 46) (.t 47)), .none⟩, ⟨.none, (.store 1 (.t 52) (.t 51)), .none⟩]) (.seq (.dreg 0 [(.plain, ⟨(.some 54), (.mv (.t 1)), .none⟩), (.plain, ⟨(.some 55), (.mv (.t 8)), .none⟩), (.plain, ⟨(.some 56), (.iadr 1 (.t 54) (.t 55)), .none⟩), (.plain, ⟨(.some 57), (.load 1 .false (.t 56)), .none⟩), (.plain, ⟨(.some 58), (.bin .lss (.t 57) (.c (.int .i64 0))), .none⟩), (.plain, ⟨(.some 59), (.mv (.t 58)), .none⟩), (.plain, ⟨(.some 60), (.mv (.t 1)), (.some (59, .false))⟩), (.plain, ⟨(.some 61), (.mv (.t 8)), (.some (59, .false))⟩), (.plain, ⟨(.some 62), (.iadr 1 (.t 60) (.t 61)), (.some (59, .false))⟩), (.plain, ⟨(.some 63), (.load 1 .false (.t 62)), (.some (59, .false))⟩), (.plain, ⟨(.some 64), (.fadr 6 (.t 2)), (.some (59, .false))⟩), (.plain, ⟨(.some 65), (.load 1 .false (.t 64)), (.some (59, .false))⟩), (.plain, ⟨(.some 66), (.mv (.t 7)), (.some (59, .false))⟩), (.plain, ⟨(.some 67), (.iadr 1 (.t 65) (.t 66)), (.some (59, .false))⟩), (.plain, ⟨(.some 68), (.load 1 .false (.t 67)), (.some (59, .false))⟩), (.plain, ⟨(.some 69), (.bin .gtr (.t 63) (.t 68)), (.some (59, .false))⟩), (.plain, ⟨(.some 70), (.pick (.t 59) (.c (.bool .true)) (.t 69)), .none⟩), (.plain, ⟨(.some 53), (.mv (.t 70)), .none⟩)] []) (.cond (.t 53) (.seq (.reg [⟨(.some 4), (.mv (.c .nils)), .none⟩, ⟨(.some 5), (.mv (.c (.int .i64 20))), .none⟩]) .ret) (.dreg 0 [(.plain, ⟨(.some 22), (.mv (.t 6)), .none⟩), (.plain, ⟨(.some 23), (.mv (.t 7)), .none⟩), (.plain, ⟨(.some 24), (.fadr 6 (.t 2)), .none⟩), (.plain, ⟨(.some 25), (.load 1 .false (.t 24)), .none⟩), (.plain, ⟨(.some 26), (.mv (.t 7)), .none⟩), (.plain, ⟨(.some 27), (.iadr 1 (.t 25) (.t 26)), .none⟩), (.plain, ⟨(.some 28), (.load 1 .false (.t 27)), .none⟩), (.plain, ⟨(.some 29), (.mv (.t 1)), .none⟩), (.plain, ⟨(.some 30), (.mv (.t 8)), .none⟩), (.plain, ⟨(.some 31), (.iadr 1 (.t 29) (.t 30)), .none⟩), (.plain, ⟨(.some 32), (.load 1 .false (.t 31)), .none⟩), (.plain, ⟨(.some 33), (.bin .sub (.t 28) (.t 32)), .none⟩), (.plain, ⟨(.some 34), (.iadr 1 (.t 22) (.t 23)), .none⟩), (.plain, ⟨.none, (.store 1 (.t 34) (.t 33)), .none⟩)] []))))))))))) (.reg [⟨(.some 71), (.bin .add (.t 14) (.c (.int .i64 1))), .none⟩, ⟨(.some 14), (.mv (.t 71)), .none⟩])))))) (.seq (.reg [⟨(.some 72), (.mv (.t 6)), .none⟩, ⟨(.some 4), (.mv (.t 72)), .none⟩, ⟨(.some 5), (.mv (.c (.int .i64 0))), .none⟩]) .ret)))))
theorem nc47 : nc Try.prog 47 = some (2, [(.t 4), (.t 5)], gc47) := by kernel_rfl
def gc48 : MC := (.seq (.reg [⟨(.some 4), (.mv (.c (.bool .false))), .none⟩]) (.seq (.reg [⟨(.some 6), (.mv (.t 0)), .none⟩, ⟨(.some 7), (.len (.t 6)), .none⟩, ⟨(.some 8), (.mv (.t 1)), .none⟩, ⟨(.some 9), (.len (.t 8)), .none⟩, ⟨(.some 10), (.bin .neq (.t 7) (.t 9)), .none⟩]) (.seq (.cond (.t 10) (.seq (.reg [⟨(.some 4), (.mv (.c (.bool .false))), .none⟩]) .ret) .skip) (.seq (.reg [⟨(.some 11), (.mv (.t 0)), .none⟩, ⟨(.some 12), (.len (.t 11)), .none⟩, ⟨(.some 13), (.mv (.c (.int .i64 0))), .none⟩]) (.seq (.block 0 (.loop (.seq (.reg [⟨(.some 14), (.bin .lss (.t 13) (.t 12)), .none⟩]) (.seq (.cond (.t 14) .skip (.exit 0)) (.seq (.block 1 (.seq (.reg [⟨(.some 15), (.mv (.t 13)), .none⟩, ⟨(.some 5), (.mv (.t 15)), .none⟩]) (.seq (.dreg 0 [(.plain, ⟨(.some 16), (.mv (.t 0)), .none⟩), (.plain, ⟨(.some 17), (.mv (.t 5)), .none⟩), (.plain, ⟨(.some 18), (.iadr 1 (.t 16) (.t 17)), .none⟩), (.plain, ⟨(.some 19), (.load 1 .false (.t 18)), .none⟩), (.plain, ⟨(.some 20), (.mv (.t 1)), .none⟩), (.plain, ⟨(.some 21), (.mv (.t 5)), .none⟩), (.plain, ⟨(.some 22), (.iadr 1 (.t 20) (.t 21)), .none⟩), (.plain, ⟨(.some 23), (.load 1 .false (.t 22)), .none⟩), (.plain, ⟨(.some 24), (.bin .neq (.t 19) (.t 23)), .none⟩)] []) (.cond (.t 24) (.seq (.reg [⟨(.some 4), (.mv (.c (.bool .false))), .none⟩]) .ret) .skip)))) (.reg [⟨(.some 25), (.bin .add (.t 13) (.c (.int .i64 1))), .none⟩, ⟨(.some 13), (.mv (.t 25)), .none⟩])))))) (.seq (.reg [⟨(.some 4), (.mv (.c (.bool .true))), .none⟩]) .ret))))))
theorem nc48 : nc Try.prog 48 = some (2, [(.t 4)], gc48) := by kernel_rfl
def gc49 : MC := (.seq (.reg [⟨(.some 1), (.box 9 (.t 0)), .none⟩, ⟨(.some 2), (.mv (.c (.int .i64 0))), .none⟩]) (.seq (.reg [⟨(.some 3), (.fadr 4 (.t 1)), .none⟩, ⟨(.some 4), (.load 1 .false (.t 3)), .none⟩, ⟨(.some 5), (.len (.t 4)), .none⟩, ⟨(.some 2), (.mv (.t 5)), .none⟩]) .ret))
theorem nc49 : nc Try.prog 49 = some (1, [(.t 2)], gc49) := by kernel_rfl
def gc51 : MC := (.seq (.reg [⟨(.some 3), (.box 9 (.t 0)), .none⟩, ⟨(.some 5), (.box 1 (.t 2)), .none⟩, ⟨(.some 6), (.mv (.c .nils)), .none⟩, ⟨(.some 7), (.mv (.c (.int .i64 0))), .none⟩]) (.seq (.reg [⟨(.some 13), (.mkfn 92 [] [(.t 5)]), .none⟩, ⟨(.some 8), (.mv (.t 13)), .none⟩]) (.seq (.reg [⟨(.some 14), (.mv (.t 1)), .none⟩, ⟨(.some 15), (.len (.t 14)), .none⟩, ⟨(.some 16), (.load 9 .true (.t 3)), .none⟩, ⟨(.some 17), (.call (.c (.fn 49 [] [])) [(.t 16)]), .none⟩, ⟨(.some 18), (.bin .neq (.t 15) (.t 17)), .none⟩, ⟨(.some 19), (.mv (.t 18)), .none⟩, ⟨(.some 20), (.load 1 .false (.t 5)), (.some (19, .false))⟩, ⟨(.some 21), (.bin .lss (.t 20) (.c (.int .i64 0))), (.some (19, .false))⟩, ⟨(.some 22), (.pick (.t 19) (.c (.bool .true)) (.t 21)), .none⟩, ⟨(.some 23), (.mv (.t 22)), .none⟩, ⟨(.some 24), (.load 1 .false (.t 5)), (.some (23, .false))⟩, ⟨(.some 25), (.bin .gtr (.t 24) (.c (.int .i64 16384))), (.some (23, .false))⟩, ⟨(.some 26), (.pick (.t 23) (.c (.bool .true)) (.t 25)), .none⟩, ⟨(.some 27), (.mv (.t 26)), .none⟩, ⟨(.some 28), (.fadr 7 (.t 3)), (.some (27, .false))⟩, ⟨(.some 29), (.load 1 .false (.t 28)), (.some (27, .false))⟩, ⟨(.some 30), (.mv (.t 8)), (.some (27, .false))⟩, ⟨(.some 31), (.call (.c (.fn 93 [] [])) [(.t 29), (.t 30)]), (.some (27, .false))⟩, ⟨(.some 32), (.pick (.t 27) (.c (.bool .true)) (.t 31)), .none⟩]) (.seq (.cond (.t 32) (.seq (.reg [⟨(.some 6), (.mv (.c .nils)), .none⟩, ⟨(.some 7), (.mv (.c (.int .i64 2))), .none⟩]) .ret) .skip) (.seq (.reg [⟨(.some 33), (.load 1 .false (.t 5)), .none⟩, ⟨(.some 34), (.mkslice 1 8 [(.int .i64 0)] (.t 33)), .none⟩, ⟨(.some 9), (.mv (.t 34)), .none⟩]) (.seq (.reg [⟨(.some 35), (.mv (.t 1)), .none⟩, ⟨(.some 36), (.len (.t 35)), .none⟩, ⟨(.some 37), (.mv (.c (.int .i64 0))), .none⟩]) (.seq (.block 0 (.loop (.seq (.reg [⟨(.some 38), (.bin .lss (.t 37) (.t 36)), .none⟩]) (.seq (.cond (.t 38) .skip (.exit 0)) (.seq (.block 1 (.seq (.reg [⟨(.some 39), (.mv (.t 37)), .none⟩, ⟨(.some 40), (.iadr 1 (.t 35) (.t 37)), .none⟩, ⟨(.some 41), (.load 1 .false (.t 40)), .none⟩, ⟨(.some 10), (.mv (.t 39)), .none⟩, ⟨(.some 11), (.mv (.t 41)), .none⟩]) (.seq (.dreg 0 [(.plain, ⟨(.some 42), (.fadr 6 (.t 3)), .none⟩), (.plain, ⟨(.some 43), (.load 1 .false (.t 42)), .none⟩), (.plain, ⟨(.some 44), (.mv (.t 10)), .none⟩), (.plain, ⟨(.some 45), (.iadr 1 (.t 43) (.t 44)), .none⟩), (.plain, ⟨(.some 46), (.load 1 .false (.t 45)), .none⟩), (.plain, ⟨(.some 47), (.fadr 6 (.t 3)), .none⟩), (.plain, ⟨(.some 48), (.load 1 .false (.t 47)), .none⟩), (.plain, ⟨(.some 49), (.fadr 5 (.t 3)), .none⟩), (.plain, ⟨(.some 50), (.load 1 .false (.t 49)), .none⟩), (.plain, ⟨(.some 51), (.mv (.t 10)), .none⟩), (.plain, ⟨(.some 52), (.iadr 1 (.t 50) (.t 51)), .none⟩), (.plain, ⟨(.some 53), (.load 1 .false (.t 52)), .none⟩), (.plain, ⟨(.some 54), (.iadr 1 (.t 48) (.t 53)), .none⟩), (.plain, ⟨(.some 55), (.load 1 .false (.t 54)), .none⟩), (.plain, ⟨(.some 56), (.mx (.t 46) (.t 55)), .none⟩), (.plain, ⟨(.some 12), (.mv (.t 56)), .none⟩)] []) (.block 2 (.seq (.reg [⟨(.some 58), (.mv (.t 11)), .none⟩, ⟨(.some 59), (.bin .lss (.t 58) (.c (.int .i64 0))), .none⟩, ⟨(.some 60), (.mv (.t 59)), .none⟩, ⟨(.some 61), (.mv (.t 11)), (.some (60, .false))⟩, ⟨(.some 62), (.mv (.t 12)), (.some (60, .false))⟩, ⟨(.some 63), (.bin .gtr (.t 61) (.t 62)), (.some (60, .false))⟩, ⟨(.some 64), (.pick (.t 60) (.c (.bool .true)) (.t 63)), .none⟩, ⟨(.some 65), (.mv (.t 64)), .none⟩, ⟨(.some 66), (.mv (.t 1)), (.some (65, .false))⟩, ⟨(.some 67), (.fadr 5 (.t 3)), (.some (65, .false))⟩, ⟨(.some 68), (.load 1 .false (.t 67)), (.some (65, .false))⟩, ⟨(.some 69), (.mv (.t 10)), (.some (65, .false))⟩, ⟨(.some 70), (.iadr 1 (.t 68) (.t 69)), (.some (65, .false))⟩, ⟨(.some 71), (.load 1 .false (.t 70)), (.some (65, .false))⟩, ⟨(.some 72), (.iadr 1 (.t 66) (.t 71)), (.some (65, .false))⟩, ⟨(.some 73), (.load 1 .false (.t 72)), (.some (65, .false))⟩, ⟨(.some 74), (.mv (.t 12)), (.some (65, .false))⟩, ⟨(.some 75), (.mv (.t 11)), (.some (65, .false))⟩, ⟨(.some 76), (.bin .sub (.t 74) (.t 75)), (.some (65, .false))⟩, ⟨(.some 77), (.bin .neq (.t 73) (.t 76)), (.some (65, .false))⟩, ⟨(.some 78), (.pick (.t 65) (.c (.bool .true)) (.t 77)), .none⟩, ⟨(.some 57), (.mv (.t 78)), .none⟩]) (.cond (.t 57) (.seq (.reg [⟨(.some 6), (.mv (.c .nils)), .none⟩, ⟨(.some 7), (.mv (.c (.int .i64 20))), .none⟩]) .ret) (.seq (.reg [⟨(.some 80), (.fadr 8 (.t 3)), .none⟩, ⟨(.some 81), (.load 1 .false (.t 80)), .none⟩, ⟨(.some 82), (.mv (.t 10)), .none⟩, ⟨(.some 83), (.iadr 1 (.t 81) (.t 82)), .none⟩, ⟨(.some 84), (.load 1 .false (.t 83)), .none⟩, ⟨(.some 79), (.mv (.t 84)), .none⟩]) (.cond (.t 79) (.reg [⟨(.some 85), (.mv (.t 9)), .none⟩, ⟨(.some 86), (.fadr 7 (.t 3)), .none⟩, ⟨(.some 87), (.load 1 .false (.t 86)), .none⟩, ⟨(.some 88), (.mv (.t 10)), .none⟩, ⟨(.some 89), (.iadr 1 (.t 87) (.t 88)), .none⟩, ⟨(.some 90), (.load 1 .false (.t 89)), .none⟩, ⟨(.some 91), (.mv (.t 11)), .none⟩, ⟨(.some 92), (.iadr 1 (.t 85) (.t 90)), .none⟩, ⟨.none, (.store 1 (.t 92) (.t 91)), .none⟩]) .skip)))))))) (.reg [⟨(.some 93), (.bin .add (.t 37) (.c (.int .i64 1))), .none⟩, ⟨(.some 37), (.mv (.t 93)), .none⟩])))))) (.seq (.reg [⟨(.some 94), (.mv (.t 9)), .none⟩, ⟨(.some 6), (.mv (.t 94)), .none⟩, ⟨(.some 7), (.mv (.c (.int .i64 0))), .none⟩]) .ret))))))))
theorem nc51 : nc Try.prog 51 = some (3, [(.t 6), (.t 7)], gc51) := by kernel_rfl
def gc52 : MC := (.seq (.reg [⟨(.some 4), (.mv (.c (.bool .false))), .none⟩]) (.seq (.reg [⟨(.some 6), (.mv (.t 0)), .none⟩, ⟨(.some 7), (.len (.t 6)), .none⟩, ⟨(.some 8), (.mv (.t 1)), .none⟩, ⟨(.some 9), (.len (.t 8)), .none⟩, ⟨(.some 10), (.bin .neq (.t 7) (.t 9)), .none⟩]) (.seq (.cond (.t 10) (.seq (.reg [⟨(.some 4), (.mv (.c (.bool .false))), .none⟩]) .ret) .skip) (.seq (.reg [⟨(.some 11), (.mv (.t 0)), .none⟩, ⟨(.some 12), (.len (.t 11)), .none⟩, ⟨(.some 13), (.mv (.c (.int .i64 0))), .none⟩]) (.seq (.block 0 (.loop (.seq (.reg [⟨(.some 14), (.bin .lss (.t 13) (.t 12)), .none⟩]) (.seq (.cond (.t 14) .skip (.exit 0)) (.seq (.block 1 (.seq (.reg [⟨(.some 15), (.mv (.t 13)), .none⟩, ⟨(.some 5), (.mv (.t 15)), .none⟩]) (.seq (.dreg 0 [(.plain, ⟨(.some 16), (.mv (.t 0)), .none⟩), (.plain, ⟨(.some 17), (.mv (.t 5)), .none⟩), (.plain, ⟨(.some 18), (.iadr 1 (.t 16) (.t 17)), .none⟩), (.plain, ⟨(.some 19), (.load 1 .false (.t 18)), .none⟩), (.plain, ⟨(.some 20), (.mv (.t 1)), .none⟩), (.plain, ⟨(.some 21), (.mv (.t 5)), .none⟩), (.plain, ⟨(.some 22), (.iadr 1 (.t 20) (.t 21)), .none⟩), (.plain, ⟨(.some 23), (.load 1 .false (.t 22)), .none⟩), (.plain, ⟨(.some 24), (.bin .neq (.t 19) (.t 23)), .none⟩)] []) (.cond (.t 24) (.seq (.reg [⟨(.some 4), (.mv (.c (.bool .false))), .none⟩]) .ret) .skip)))) (.reg [⟨(.some 25), (.bin .add (.t 13) (.c (.int .i64 1))), .none⟩, ⟨(.some 13), (.mv (.t 25)), .none⟩])))))) (.seq (.reg [⟨(.some 4), (.mv (.c (.bool .true))), .none⟩]) .ret))))))
theorem nc52 : nc Try.prog 52 = some (2, [(.t 4)], gc52) := by kernel_rfl
def gc53 : MC := (.seq (.reg [⟨(.some 2), (.box 9 (.t 0)), .none⟩, ⟨(.some 4), (.mv (.c (.int .i64 0))), .none⟩, ⟨(.some 5), (.mv (.c (.bool .false))), .none⟩]) (.seq (.reg [⟨(.some 6), (.mv (.t 1)), .none⟩, ⟨(.some 7), (.bin .lss (.t 6) (.c (.int .i64 0))), .none⟩, ⟨(.some 8), (.mv (.t 7)), .none⟩, ⟨(.some 9), (.mv (.t 1)), (.some (8, .false))⟩, ⟨(.some 10), (.load 9 .true (.t 2)), (.some (8, .false))⟩, ⟨(.some 11), (.call (.c (.fn 49 [] [])) [(.t 10)]), (.some (8, .false))⟩, ⟨(.some 12), (.bin .geq (.t 9) (.t 11)), (.some (8, .false))⟩, ⟨(.some 13), (.pick (.t 8) (.c (.bool .true)) (.t 12)), .none⟩]) (.seq (.cond (.t 13) (.seq (.reg [⟨(.some 4), (.mv (.c (.int .i64 0))), .none⟩, ⟨(.some 5), (.mv (.c (.bool .false))), .none⟩]) .ret) .skip) (.seq (.reg [⟨(.some 14), (.fadr 3 (.t 2)), .none⟩, ⟨(.some 15), (.load 1 .false (.t 14)), .none⟩, ⟨(.some 16), (.mv (.t 1)), .none⟩, ⟨(.some 17), (.bin .add (.t 16) (.c (.int .i64 1))), .none⟩, ⟨(.some 18), (.call (.c (.fn 94 [] [])) [(.t 15), (.t 17)]), .none⟩, ⟨(.some 19), (.bin .sub (.t 18) (.c (.int .i64 1))), .none⟩, ⟨(.some 4), (.mv (.t 19)), .none⟩, ⟨(.some 5), (.mv (.c (.bool .true))), .none⟩]) .ret))))
theorem nc53 : nc Try.prog 53 = some (2, [(.t 4), (.t 5)], gc53) := by kernel_rfl
def gc62 : MC := (.seq (.reg [⟨(.some 2), (.box 9 (.t 0)), .none⟩, ⟨(.some 4), (.mv (.c .nils)), .none⟩]) (.seq (.reg [⟨(.some 8), (.mv (.t 1)), .none⟩, ⟨(.some 9), (.bin .lss (.t 8) (.c (.int .i64 0))), .none⟩, ⟨(.some 10), (.mv (.t 9)), .none⟩, ⟨(.some 11), (.mv (.t 1)), (.some (10, .false))⟩, ⟨(.some 12), (.bin .gtr (.t 11) (.c (.int .i64 16384))), (.some (10, .false))⟩, ⟨(.some 13), (.pick (.t 10) (.c (.bool .true)) (.t 12)), .none⟩]) (.seq (.cond (.t 13) (.seq (.reg [⟨(.some 4), (.mv (.c .nils)), .none⟩]) .ret) .skip) (.seq (.reg [⟨(.some 14), (.bslice 1 1 [(.int .i64 0)] [(0, (.c (.int .i64 (-1))))]), .none⟩, ⟨(.some 15), (.mv (.t 1)), .none⟩, ⟨(.some 16), (.call (.c (.fn 100 [] [])) [(.t 14), (.t 15)]), .none⟩, ⟨(.some 5), (.mv (.t 16)), .none⟩]) (.seq (.reg [⟨(.some 17), (.load 9 .true (.t 2)), .none⟩, ⟨(.some 18), (.call (.c (.fn 49 [] [])) [(.t 17)]), .none⟩, ⟨(.some 19), (.mv (.c (.int .i64 0))), .none⟩]) (.seq (.block 0 (.loop (.seq (.reg [⟨(.some 20), (.bin .lss (.t 19) (.t 18)), .none⟩]) (.seq (.cond (.t 20) .skip (.exit 0)) (.seq (.block 1 (.seq (.reg [⟨(.some 21), (.mv (.t 19)), .none⟩, ⟨(.some 6), (.mv (.t 21)), .none⟩]) (.seq (.reg [⟨(.some 22), (.fadr 7 (.t 2)), .none⟩, ⟨(.some 23), (.load 1 .false (.t 22)), .none⟩, ⟨(.some 24), (.mv (.t 6)), .none⟩, ⟨(.some 25), (.iadr 1 (.t 23) (.t 24)), .none⟩, ⟨(.some 26), (.load 1 .false (.t 25)), .none⟩, ⟨(.some 7), (.mv (.t 26)), .none⟩]) (.seq (.reg [⟨(.some 27), (.fadr 8 (.t 2)), .none⟩, ⟨(.some 28), (.load 1 .false (.t 27)), .none⟩, ⟨(.some 29), (.mv (.t 6)), .none⟩, ⟨(.some 30), (.iadr 1 (.t 28) (.t 29)), .none⟩, ⟨(.some 31), (.load 1 .false (.t 30)), .none⟩, ⟨(.some 32), (.not (.t 31)), .none⟩, ⟨(.some 33), (.mv (.t 32)), .none⟩, ⟨(.some 34), (.mv (.t 7)), (.some (33, .true))⟩, ⟨(.some 35), (.mv (.t 1)), (.some (33, .true))⟩, ⟨(.some 36), (.bin .lss (.t 34) (.t 35)), (.some (33, .true))⟩, ⟨(.some 37), (.pick (.t 33) (.t 36) (.c (.bool .false))), .none⟩]) (.cond (.t 37) (.reg [⟨(.some 38), (.mv (.t 5)), .none⟩, ⟨(.some 39), (.mv (.t 7)), .none⟩, ⟨(.some 40), (.mv (.t 6)), .none⟩, ⟨(.some 41), (.iadr 1 (.t 38) (.t 39)), .none⟩, ⟨.none, (.store 1 (.t 41) (.t 40)), .none⟩]) .skip))))) (.reg [⟨(.some 42), (.bin .add (.t 19) (.c (.int .i64 1))), .none⟩, ⟨(.some 19), (.mv (.t 42)), .none⟩])))))) (.seq (.reg [⟨(.some 43), (.mv (.t 5)), .none⟩, ⟨(.some 4), (.mv (.t 43)), .none⟩]) .ret)))))))
theorem nc62 : nc Try.prog 62 = some (2, [(.t 4)], gc62) := by kernel_rfl
def gc70 : MC := (.seq (.reg [⟨(.some 4), (.mv (.c (.bool .false))), .none⟩]) (.seq (.reg [⟨(.some 6), (.mv (.t 0)), .none⟩, ⟨(.some 7), (.len (.t 6)), .none⟩, ⟨(.some 8), (.mv (.t 1)), .none⟩, ⟨(.some 9), (.len (.t 8)), .none⟩, ⟨(.some 10), (.bin .neq (.t 7) (.t 9)), .none⟩]) (.seq (.cond (.t 10) (.seq (.reg [⟨(.some 4), (.mv (.c (.bool .false))), .none⟩]) .ret) .skip) (.seq (.reg [⟨(.some 11), (.mv (.t 0)), .none⟩, ⟨(.some 12), (.len (.t 11)), .none⟩, ⟨(.some 13), (.mv (.c (.int .i64 0))), .none⟩]) (.seq (.block 0 (.loop (.seq (.reg [⟨(.some 14), (.bin .lss (.t 13) (.t 12)), .none⟩]) (.seq (.cond (.t 14) .skip (.exit 0)) (.seq (.block 1 (.seq (.reg [⟨(.some 15), (.mv (.t 13)), .none⟩, ⟨(.some 5), (.mv (.t 15)), .none⟩]) (.seq (.dreg 0 [(.plain, ⟨(.some 16), (.mv (.t 0)), .none⟩), (.plain, ⟨(.some 17), (.mv (.t 5)), .none⟩), (.plain, ⟨(.some 18), (.iadr 1 (.t 16) (.t 17)), .none⟩), (.plain, ⟨(.some 19), (.load 1 .false (.t 18)), .none⟩), (.plain, ⟨(.some 20), (.mv (.t 1)), .none⟩), (.plain, ⟨(.some 21), (.mv (.t 5)), .none⟩), (.plain, ⟨(.some 22), (.iadr 1 (.t 20) (.t 21)), .none⟩), (.plain, ⟨(.some 23), (.load 1 .false (.t 22)), .none⟩), (.plain, ⟨(.some 24), (.eq .true .bool (.t 19) (.t 23)), .none⟩)] []) (.cond (.t 24) (.seq (.reg [⟨(.some 4), (.mv (.c (.bool .false))), .none⟩]) .ret) .skip)))) (.reg [⟨(.some 25), (.bin .add (.t 13) (.c (.int .i64 1))), .none⟩, ⟨(.some 13), (.mv (.t 25)), .none⟩])))))) (.seq (.reg [⟨(.some 4), (.mv (.c (.bool .true))), .none⟩]) .ret))))))
theorem nc70 : nc Try.prog 70 = some (2, [(.t 4)], gc70) := by kernel_rfl
def gc89 : MC := (.seq (.reg [⟨(.some 1), (.box 4 (.t 0)), .none⟩, ⟨(.some 2), (.mv (.c .nils)), .none⟩]) (.seq (.reg [⟨(.some 7), (.fadr 0 (.t 1)), .none⟩, ⟨(.some 8), (.load 1 .false (.t 7)), .none⟩, ⟨(.some 9), (.bin .add (.t 8) (.c (.int .i64 1))), .none⟩, ⟨(.some 10), (.mkslice 1 8 [(.int .i64 0)] (.t 9)), .none⟩, ⟨(.some 3), (.mv (.t 10)), .none⟩]) (.seq (.reg [⟨(.some 11), (.fadr 3 (.t 1)), .none⟩, ⟨(.some 12), (.load 1 .false (.t 11)), .none⟩, ⟨(.some 13), (.len (.t 12)), .none⟩, ⟨(.some 14), (.mv (.c (.int .i64 0))), .none⟩]) (.seq (.block 0 (.loop (.seq (.reg [⟨(.some 15), (.bin .lss (.t 14) (.t 13)), .none⟩]) (.seq (.cond (.t 15) .skip (.exit 0)) (.seq (.block 1 (.seq (.reg [⟨(.some 16), (.iadr 3 (.t 12) (.t 14)), .none⟩, ⟨(.some 17), (.load 3 .true (.t 16)), .none⟩, ⟨(.some 5), (.alloc [(.int .i64 0), (.int .i64 0), (.int .i64 0)]), .none⟩, ⟨.none, (.store 3 (.t 5) (.t 17)), .none⟩]) (.seq (.reg [⟨(.some 18), (.fadr 0 (.t 5)), .none⟩, ⟨(.some 19), (.load 1 .false (.t 18)), .none⟩, ⟨(.some 20), (.fadr 1 (.t 5)), .none⟩, ⟨(.some 21), (.load 1 .false (.t 20)), .none⟩, ⟨(.some 22), (.bin .neq (.t 19) (.t 21)), .none⟩]) (.cond (.t 22) (.seq (.reg [⟨(.some 23), (.mv (.t 3)), .none⟩, ⟨(.some 24), (.fadr 0 (.t 5)), .none⟩, ⟨(.some 25), (.load 1 .false (.t 24)), .none⟩, ⟨(.some 26), (.bin .add (.t 25) (.c (.int .i64 1))), .none⟩, ⟨(.some 27), (.iadr 1 (.t 23) (.t 26)), .none⟩, ⟨(.some 28), (.load 1 .false (.t 27)), .none⟩, ⟨(.some 29), (.bin .add (.t 28) (.c (.int .i64 1))), .none⟩, ⟨(.some 30), (.iadr 1 (.t 23) (.t 26)), .none⟩, ⟨.none, (.store 1 (.t 30) (.t 29)), .none⟩]) (.reg [⟨(.some 31), (.mv (.t 3)), .none⟩, ⟨(.some 32), (.fadr 1 (.t 5)), .none⟩, ⟨(.some 33), (.load 1 .false (.t 32)), .none⟩, ⟨(.some 34), (.bin .add (.t 33) (.c (.int .i64 1))), .none⟩, ⟨(.some 35), (.iadr 1 (.t 31) (.t 34)), .none⟩, ⟨(.some 36), (.load 1 .false (.t 35)), .none⟩, ⟨(.some 37), (.bin .add (.t 36) (.c (.int .i64 1))), .none⟩, ⟨(.some 38), (.iadr 1 (.t 31) (.t 34)), .none⟩, ⟨.none, (.store 1 (.t 38) (.t 37)), .none⟩])) .skip)))) (.reg [⟨(.some 39), (.bin .add (.t 14) (.c (.int .i64 1))), .none⟩, ⟨(.some 14), (.mv (.t 39)), .none⟩])))))) (.seq (.reg [⟨(.some 40), (.fadr 0 (.t 1)), .none⟩, ⟨(.some 41), (.load 1 .false (.t 40)), .none⟩, ⟨(.some 42), (.mv (.c (.int .i64 0))), .none⟩]) (.seq (.block 2 (.loop (.seq (.reg [⟨(.some 43), (.bin .lss (.t 42) (.t 41)), .none⟩]) (.seq (.cond (.t 43) .skip (.exit 2)) (.seq (.block 3 (.seq (.reg [⟨(.some 44), (.mv (.t 42)), .none⟩, ⟨(.some 6), (.mv (.t 44)), .none⟩]) (.dreg 0 [(.plain, ⟨(.some 45), (.mv (.t 3)), .none⟩), (.plain, ⟨(.some 46), (.mv (.t 6)), .none⟩), (.plain, ⟨(.some 47), (.bin .add (.t 46) (.c (.int .i64 1))), .none⟩), (.plain, ⟨(.some 48), (.iadr 1 (.t 45) (.t 47)), .none⟩), (.plain, ⟨(.some 49), (.load 1 .false (.t 48)), .none⟩), (.plain, ⟨(.some 50), (.mv (.t 3)), .none⟩), (.plain, ⟨(.some 51), (.mv (.t 6)), .none⟩), (.plain, ⟨(.some 52), (.iadr 1 (.t 50) (.t 51)), .none⟩), (.plain, ⟨(.some 53), (.load 1 .false (.t 52)), .none⟩), (.plain, ⟨(.some 54), (.bin .add (.t 49) (.t 53)), .none⟩), (.plain, ⟨(.some 55), (.iadr 1 (.t 45) (.t 47)), .none⟩), (.plain, ⟨.none, (.store 1 (.t 55) (.t 54)), .none⟩)] []))) (.reg [⟨(.some 56), (.bin .add (.t 42) (.c (.int .i64 1))), .none⟩, ⟨(.some 42), (.mv (.t 56)), .none⟩])))))) (.seq (.reg [⟨(.some 57), (.mv (.t 3)), .none⟩, ⟨(.some 2), (.mv (.t 57)), .none⟩]) .ret)))))))
theorem nc89 : nc Try.prog 89 = some (1, [(.t 2)], gc89) := by kernel_rfl
def gc90 : MC := (.seq (.reg [⟨(.some 2), (.mv (.c .nils)), .none⟩]) (.seq (.reg [⟨(.some 3), (.mv (.t 0)), .none⟩, ⟨(.some 4), (.eq .false .sl (.t 3) (.c .nils)), .none⟩]) (.seq (.cond (.t 4) (.seq (.reg [⟨(.some 2), (.mv (.c .nils)), .none⟩]) .ret) .skip) (.seq (.reg [⟨(.some 5), (.bslice 0 1 [] []), .none⟩, ⟨(.some 6), (.mv (.t 0)), .none⟩, ⟨(.some 7), (.append 1 8 (.t 5) (.t 6)), .none⟩, ⟨(.some 2), (.mv (.t 7)), .none⟩]) .ret))))
theorem nc90 : nc Try.prog 90 = some (1, [(.t 2)], gc90) := by kernel_rfl
def gc91 : MC := (.seq (.reg [⟨(.some 12), (.mv (.c (.int .i64 0))), .none⟩]) (.seq (.reg [⟨(.some 14), (.load 1 .false (.t 5)), .none⟩, ⟨(.some 15), (.mv (.t 0)), .none⟩, ⟨(.some 16), (.iadr 1 (.t 14) (.t 15)), .none⟩, ⟨(.some 17), (.load 1 .false (.t 16)), .none⟩, ⟨(.some 13), (.mv (.t 17)), .none⟩]) (.seq (.reg [⟨(.some 18), (.load 1 .false (.t 5)), .none⟩, ⟨(.some 19), (.mv (.t 0)), .none⟩, ⟨(.some 20), (.iadr 1 (.t 18) (.t 19)), .none⟩, ⟨(.some 21), (.load 1 .false (.t 20)), .none⟩, ⟨(.some 22), (.bin .add (.t 21) (.c (.int .i64 1))), .none⟩, ⟨(.some 23), (.iadr 1 (.t 18) (.t 19)), .none⟩, ⟨.none, (.store 1 (.t 23) (.t 22)), .none⟩]) (.seq (.dreg 0 [(.plain, ⟨(.some 24), (.fadr 4 (.t 6)), .none⟩), (.plain, ⟨(.some 25), (.load 1 .false (.t 24)), .none⟩), (.plain, ⟨(.some 26), (.mv (.t 13)), .none⟩), (.plain, ⟨(.some 27), (.fadr 6 (.t 6)), .none⟩), (.plain, ⟨(.some 28), (.load 1 .false (.t 27)), .none⟩), (.plain, ⟨(.some 29), (.mv (.t 13)), .none⟩), (.plain, ⟨(.some 30), (.fadr 7 (.t 6)), .none⟩), (.plain, ⟨(.some 31), (.load 1 .false (.t 30)), .none⟩), (.plain, ⟨(.some 32), (.mv (.t 13)), .none⟩), (.plain, ⟨(.some 33), (.fadr 8 (.t 6)), .none⟩), (.plain, ⟨(.some 34), (.load 1 .false (.t 33)), .none⟩), (.plain, ⟨(.some 35), (.mv (.t 13)), .none⟩), (.plain, ⟨(.some 36), (.mv (.t 1)), .none⟩), (.plain, ⟨(.some 37), (.mv (.t 2)), .none⟩), (.plain, ⟨(.some 38), (.mv (.t 3)), .none⟩), (.plain, ⟨(.some 39), (.mv (.t 4)), .none⟩), (.plain, ⟨(.some 40), (.iadr 1 (.t 25) (.t 26)), .none⟩), (.plain, ⟨.none, (.store 1 (.t 40) (.t 36)), .none⟩), (.plain, ⟨(.some 41), (.iadr 1 (.t 28) (.t 29)), .none⟩), (.plain, ⟨.none, (.store 1 (.t 41) (.t 37)), .none⟩), (.plain, ⟨(.some 42), (.iadr 1 (.t 31) (.t 32)), .none⟩), (.plain, ⟨.none, (.store 1 (.t 42) (.t 38)), .none⟩), (.plain, ⟨(.some 43), (.iadr 1 (.t 34) (.t 35)), .none⟩), (.plain, ⟨.none, (.store 1 (.t 43) (.t 39)), .none⟩)] [(.ne (.t 27) (.t 40)), (.ne (.t 30) (.t 40)), (.ne (.t 30) (.t 41)), (.ne (.t 33) (.t 40)), (.ne (.t 33) (.t 41)), (.ne (.t 33) (.t 42))]) (.seq (.reg [⟨(.some 44), (.mv (.t 13)), .none⟩, ⟨(.some 12), (.mv (.t 44)), .none⟩]) .ret)))))
theorem nc91 : nc Try.prog 91 = some (7, [(.t 12)], gc91) := by kernel_rfl
def gc92 : MC := (.seq (.reg [⟨(.some 3), (.mv (.c (.bool .false))), .none⟩]) (.seq (.reg [⟨(.some 4), (.mv (.t 0)), .none⟩, ⟨(.some 5), (.load 1 .false (.t 1)), .none⟩, ⟨(.some 6), (.bin .geq (.t 4) (.t 5)), .none⟩, ⟨(.some 3), (.mv (.t 6)), .none⟩]) .ret))
theorem nc92 : nc Try.prog 92 = some (2, [(.t 3)], gc92) := by kernel_rfl
def gc93 : MC := (.seq (.reg [⟨(.some 4), (.mv (.c (.bool .false))), .none⟩]) (.seq (.reg [⟨(.some 5), (.mv (.t 0)), .none⟩, ⟨(.some 6), (.mv (.t 1)), .none⟩, ⟨(.some 7), (.call (.c (.fn 125 [] [])) [(.t 5), (.t 6)]), .none⟩, ⟨(.some 8), (.bin .geq (.t 7) (.c (.int .i64 0))), .none⟩, ⟨(.some 4), (.mv (.t 8)), .none⟩]) .ret))
theorem nc93 : nc Try.prog 93 = some (2, [(.t 4)], gc93) := by kernel_rfl
def gc94 : MC := (.seq (.reg [⟨(.some 2), (.box 1 (.t 0)), .none⟩, ⟨(.some 3), (.box 1 (.t 1)), .none⟩, ⟨(.some 4), (.mv (.c (.int .i64 0))), .none⟩]) (.seq (.reg [⟨(.some 5), (.load 1 .false (.t 2)), .none⟩, ⟨(.some 6), (.len (.t 5)), .none⟩, ⟨(.some 7), (.mkfn 127 [] [(.t 2), (.t 3)]), .none⟩, ⟨(.some 8), (.call (.c (.fn 126 [] [])) [(.t 6), (.t 7)]), .none⟩, ⟨(.some 4), (.mv (.t 8)), .none⟩]) .ret))
theorem nc94 : nc Try.prog 94 = some (2, [(.t 4)], gc94) := by kernel_rfl
def gc125 : MC := (.seq (.reg [⟨(.some 4), (.mv (.c (.int .i64 0))), .none⟩]) (.seq (.reg [⟨(.some 6), (.mv (.t 0)), .none⟩, ⟨(.some 7), (.len (.t 6)), .none⟩, ⟨(.some 8), (.mv (.c (.int .i64 0))), .none⟩]) (.seq (.block 0 (.loop (.seq (.reg [⟨(.some 9), (.bin .lss (.t 8) (.t 7)), .none⟩]) (.seq (.cond (.t 9) .skip (.exit 0)) (.seq (.block 1 (.seq (.reg [⟨(.some 10), (.mv (.t 8)), .none⟩, ⟨(.some 5), (.mv (.t 10)), .none⟩]) (.seq (.reg [⟨(.some 11), (.mv (.t 1)), .none⟩, ⟨(.some 12), (.mv (.t 0)), .none⟩, ⟨(.some 13), (.mv (.t 5)), .none⟩, ⟨(.some 14), (.iadr 1 (.t 12) (.t 13)), .none⟩, ⟨(.some 15), (.load 1 .false (.t 14)), .none⟩, ⟨(.some 16), (.call (.t 11) [(.t 15)]), .none⟩]) (.cond (.t 16) (.seq (.reg [⟨(.some 17), (.mv (.t 5)), .none⟩, ⟨(.some 4), (.mv (.t 17)), .none⟩]) .ret) .skip)))) (.reg [⟨(.some 18), (.bin .add (.t 8) (.c (.int .i64 1))), .none⟩, ⟨(.some 8), (.mv (.t 18)), .none⟩])))))) (.seq (.reg [⟨(.some 4), (.mv (.c (.int .i64 (-1)))), .none⟩]) .ret))))
theorem nc125 : nc Try.prog 125 = some (2, [(.t 4)], gc125) := by kernel_rfl
def gc126 : MC := (.seq (.reg [⟨(.some 4), (.mv (.c (.int .i64 0))), .none⟩]) (.seq (.reg [⟨(.some 8), (.mv (.t 0)), .none⟩, ⟨(.some 5), (.mv (.c (.int .i64 0))), .none⟩, ⟨(.some 6), (.mv (.t 8)), .none⟩]) (.seq (.block 0 (.loop (.seq (.reg [⟨(.some 9), (.mv (.t 5)), .none⟩, ⟨(.some 10), (.mv (.t 6)), .none⟩, ⟨(.some 11), (.bin .lss (.t 9) (.t 10)), .none⟩]) (.seq (.cond (.t 11) .skip (.exit 0)) (.block 1 (.seq (.reg [⟨(.some 12), (.mv (.t 5)), .none⟩, ⟨(.some 13), (.mv (.t 6)), .none⟩, ⟨(.some 14), (.bin .add (.t 12) (.t 13)), .none⟩, ⟨(.some 15), (.conv .u64 (.t 14)), .none⟩, ⟨(.some 16), (.bin .shr (.t 15) (.c (.int .u64 1))), .none⟩, ⟨(.some 17), (.conv .i64 (.t 16)), .none⟩, ⟨(.some 7), (.mv (.t 17)), .none⟩]) (.seq (.reg [⟨(.some 18), (.mv (.t 1)), .none⟩, ⟨(.some 19), (.mv (.t 7)), .none⟩, ⟨(.some 20), (.call (.t 18) [(.t 19)]), .none⟩, ⟨(.some 21), (.not (.t 20)), .none⟩]) (.cond (.t 21) (.reg [⟨(.some 22), (.mv (.t 7)), .none⟩, ⟨(.some 23), (.bin .add (.t 22) (.c (.int .i64 1))), .none⟩, ⟨(.some 5), (.mv (.t 23)), .none⟩]) (.reg [⟨(.some 24), (.mv (.t 7)), .none⟩, ⟨(.some 6), (.mv (.t 24)), .none⟩]))))))))) (.seq (.reg [⟨(.some 25), (.mv (.t 5)), .none⟩, ⟨(.some 4), (.mv (.t 25)), .none⟩]) .ret))))
theorem nc126 : nc Try.prog 126 = some (2, [(.t 4)], gc126) := by kernel_rfl
def gc127 : MC := (.seq (.reg [⟨(.some 4), (.mv (.c (.bool .false))), .none⟩]) (.seq (.dreg 0 [(.plain, ⟨(.some 5), (.load 1 .false (.t 1)), .none⟩), (.plain, ⟨(.some 6), (.mv (.t 0)), .none⟩), (.plain, ⟨(.some 7), (.iadr 1 (.t 5) (.t 6)), .none⟩), (.plain, ⟨(.some 8), (.load 1 .false (.t 7)), .none⟩), (.plain, ⟨(.some 9), (.load 1 .false (.t 2)), .none⟩), (.plain, ⟨(.some 10), (.bin .geq (.t 8) (.t 9)), .none⟩), (.plain, ⟨(.some 4), (.mv (.t 10)), .none⟩)] []) .ret))
theorem nc127 : nc Try.prog 127 = some (3, [(.t 4)], gc127) := by kernel_rfl
end Go.Proofs.Ytpojdgeginigjaa
/- Residual arcs: functions that read alone. -/
set_option linter.unusedSimpArgs false
set_option linter.unusedVariables false
namespace Go.Proofs.Ytpojdgeginigjaa
open Go Go.Ar
set_option maxRecDepth 100000

/-- Two rows that are the same: Ints, Longs, Bools. -/
theorem pc_ints {a b : V} {n : Nat} {f : Nat → Int} {H : Heap} (h1 : TB H a n fun j => .int .i64 (f j)) (h2 : TB H b n fun j => .int .i64 (f j)) (hs : n ≤ 2 ^ 40) : Pc E 48 [a, b] H (.bool true) := Pc.mk fun G => by
  have hA := h1.app G
  have hB := h2.app G
  clear h1 h2
  generalize H ++ G = H1 at *
  have la := hA.len
  have lb := hB.len
  refine call_E rfl nc48 rfl ?_
  unfold gc48
  refine wa_sr ⟨_, by simp; rfl, ?_⟩
  refine wa_sr ⟨_, by simp [la, lb]; rfl, ?_⟩
  refine wa_if (t := false) (by simp) (fun h => by cases h) (fun _ => ?_)
  refine wa_sr ⟨_, by simp [la]; rfl, ?_⟩
  refine wa_cut (fun s => s.H = H1) ?_ ?_
  · refine wa_for (n := n) (fun i (_ : Unit) => [(0, a), (1, b)]) (fun i _ H' => H' = H1) () (by decide) (fun i hi => w64 (by omega) (by omega)) (by simp) (by simp) (by simp [Rg]) rfl (by simp) ?_ ?_
    · rintro i _ τ _ hi t13 t12 ⟨t0, t1, -⟩ rfl
      dsimp only [ev] at *
      obtain ⟨ka, oa, ca, ea, ra⟩ := hA.at0 hi
      obtain ⟨kb, ob, cb, eb, rb⟩ := hB.at0 hi
      refine wa_sr ⟨_, by simp [t13]; rfl, ?_⟩
      refine wa_dr rfl rfl ⟨_, by simp -implicitDefEqProofs [t13, t0, t1, ea, eb, hi, ra, rb]; rfl, ?_⟩
      refine wa_cond (t := false) (by simp) (fun h => by cases h) (fun _ => wa_skip ?_)
      exact ⟨by simp [t13], by simp [t12], (), by simp [Rg, t0, t1, ea, eb], rfl⟩
    · rintro _ τ _ _ rfl; rfl
  · rintro ⟨τ, H'⟩ h
    dsimp only at h
    subst h
    refine wa_sr ⟨_, by simp; rfl, ?_⟩
    exact wa_ret ⟨by simp, _, by simp; rfl, rfl, [], by simp⟩
theorem pc_longs {a b : V} {n : Nat} {f : Nat → Int} {H : Heap} (h1 : TB H a n fun j => .int .i64 (f j)) (h2 : TB H b n fun j => .int .i64 (f j)) (hs : n ≤ 2 ^ 40) : Pc E 52 [a, b] H (.bool true) := Pc.mk fun G => by
  have hA := h1.app G
  have hB := h2.app G
  clear h1 h2
  generalize H ++ G = H1 at *
  have la := hA.len
  have lb := hB.len
  refine call_E rfl nc52 rfl ?_
  unfold gc52
  refine wa_sr ⟨_, by simp; rfl, ?_⟩
  refine wa_sr ⟨_, by simp [la, lb]; rfl, ?_⟩
  refine wa_if (t := false) (by simp) (fun h => by cases h) (fun _ => ?_)
  refine wa_sr ⟨_, by simp [la]; rfl, ?_⟩
  refine wa_cut (fun s => s.H = H1) ?_ ?_
  · refine wa_for (n := n) (fun i (_ : Unit) => [(0, a), (1, b)]) (fun i _ H' => H' = H1) () (by decide) (fun i hi => w64 (by omega) (by omega)) (by simp) (by simp) (by simp [Rg]) rfl (by simp) ?_ ?_
    · rintro i _ τ _ hi t13 t12 ⟨t0, t1, -⟩ rfl
      dsimp only [ev] at *
      obtain ⟨ka, oa, ca, ea, ra⟩ := hA.at0 hi
      obtain ⟨kb, ob, cb, eb, rb⟩ := hB.at0 hi
      refine wa_sr ⟨_, by simp [t13]; rfl, ?_⟩
      refine wa_dr rfl rfl ⟨_, by simp -implicitDefEqProofs [t13, t0, t1, ea, eb, hi, ra, rb]; rfl, ?_⟩
      refine wa_cond (t := false) (by simp) (fun h => by cases h) (fun _ => wa_skip ?_)
      exact ⟨by simp [t13], by simp [t12], (), by simp [Rg, t0, t1, ea, eb], rfl⟩
    · rintro _ τ _ _ rfl; rfl
  · rintro ⟨τ, H'⟩ h
    dsimp only at h
    subst h
    refine wa_sr ⟨_, by simp; rfl, ?_⟩
    exact wa_ret ⟨by simp, _, by simp; rfl, rfl, [], by simp⟩

/-! ### A row of residual arcs, in memory -/
structure Csr where
  N : Int
  S : Int
  T : Int
  vs : Nat
  m : Nat
  first : Nat → Int
  head : Nat → Int
  rev : Nat → Int
  cap : Nat → Int
  arc : Nat → Int
  back : Nat → Bool
structure CV where
  x1 : V
  x2 : V
  x3 : V
  x4 : V
  x5 : V
  x6 : V
def CVal (c : Csr) (x : CV) : V := .agg [.int .i64 c.N, .int .i64 c.S, .int .i64 c.T, x.x1, x.x2, x.x3, x.x4, x.x5, x.x6]
structure CA (H : Heap) (c : Csr) (x : CV) : Prop where
  f1 : TB H x.x1 (c.vs + 1) fun j => .int .i64 (c.first j)
  f2 : TB H x.x2 c.m fun j => .int .i64 (c.head j)
  f3 : TB H x.x3 c.m fun j => .int .i64 (c.rev j)
  f4 : TB H x.x4 c.m fun j => .int .i64 (c.cap j)
  f5 : TB H x.x5 c.m fun j => .int .i64 (c.arc j)
  f6 : TB H x.x6 c.m fun j => .bool (c.back j)
theorem CA.app {H : Heap} {c : Csr} {x : CV} (h : CA H c x) (G : Heap) : CA (H ++ G) c x := ⟨h.1.app G, h.2.app G, h.3.app G, h.4.app G, h.5.app G, h.6.app G⟩
def cbox (c : Csr) (x : CV) : Blk := .cells [.int .i64 c.N, .int .i64 c.S, .int .i64 c.T, x.x1, x.x2, x.x3, x.x4, x.x5, x.x6] .ex

theorem pc_len {c : Csr} {x : CV} {H : Heap} (h : lenOf x.x2 = some c.m) : Pc E 49 [CVal c x] H (.int .i64 c.m) := Pc.mk fun G => by
  generalize H ++ G = H1
  refine call_E rfl nc49 rfl ?_
  unfold gc49 CVal
  refine wa_sr ⟨_, by simp; rfl, ?_⟩
  refine wa_sr ⟨_, by simp [h]; rfl, ?_⟩
  exact wa_ret ⟨by simp, _, by simp; rfl, rfl, _, rfl⟩

theorem cl127 {k2 k3 n i : Nat} {a : V} {f : Nat → Int} {x : Int} {H : Heap} (h : TB H a n fun j => .int .i64 (f j)) (h2 : rd H k2 0 = some a) (h3 : rd H k3 0 = some (.int .i64 x)) (hi : i < n) :
    callL E (.f 127) [.int .i64 i, .ptr k2 0, .ptr k3 0] H = some (.bool (decide (x ≤ f i)), H) := by
  have key : ∃ v H', callL E (.f 127) [.int .i64 i, .ptr k2 0, .ptr k3 0] H = some (v, H') ∧ v = .bool (decide (x ≤ f i)) ∧ H' = H := by
    refine call_E rfl nc127 rfl ?_
    unfold gc127
    obtain ⟨k, o, c, rfl, hr⟩ := h.at0 hi
    refine wa_sr ⟨_, by simp; rfl, ?_⟩
    refine wa_dr rfl rfl ⟨_, by simp -implicitDefEqProofs [h2, h3, hi, hr]; rfl, ?_⟩
    exact wa_ret ⟨by simp, _, by simp; rfl, by simp, rfl⟩
  obtain ⟨v, H', h, rfl, rfl⟩ := key
  exact h
/-- Where numbers that rise pass one: its index, by halves. -/
theorem search_ok {k2 k3 n r : Nat} {a : V} {f : Nat → Int} {x : Int} {H : Heap} (h : TB H a n fun j => .int .i64 (f j)) (hs : n ≤ 2 ^ 40) (h2 : rd H k2 0 = some a) (h3 : rd H k3 0 = some (.int .i64 x))
    (hr : r ≤ n) (c1 : ∀ j, j < r → f j < x) (c2 : ∀ j, r ≤ j → j < n → x ≤ f j) : callL E (.f 126) [.int .i64 n, .fn 127 [] [.ptr k2 0, .ptr k3 0]] H = some (.int .i64 r, H) := by
  have key : ∃ v H', callL E (.f 126) [.int .i64 n, .fn 127 [] [.ptr k2 0, .ptr k3 0]] H = some (v, H') ∧ v = .int .i64 r ∧ H' = H := by
    refine call_E rfl nc126 rfl ?_
    unfold gc126
    refine wa_sr ⟨_, by simp; rfl, ?_⟩
    refine wa_sr ⟨_, by simp; rfl, ?_⟩
    refine wa_cut (fun s => s.H = H ∧ s.τ 5 = .int .i64 r) ?_ ?_
    · refine wa_wh0 (fun m s => ∃ lo hi : Nat, m = hi - lo ∧ lo ≤ r ∧ r ≤ hi ∧ hi ≤ n ∧ s.H = H ∧ Rg s.τ [(1, .fn 127 [] [.ptr k2 0, .ptr k3 0]), (5, .int .i64 lo), (6, .int .i64 hi)]) n ⟨0, n, by omega, by omega, hr, Nat.le_refl _, rfl, by simp [Rg]⟩ ?_
      rintro m ⟨τ, _⟩ ⟨lo, hi, rfl, l1, l2, l3, rfl, t1, t5, t6, -⟩
      dsimp only at t1 t5 t6
      refine ⟨_, decide (lo < hi), by simp [t5, t6]; rfl, by simp, fun ht => ?_, fun ht => ?_⟩
      · have hlt : lo < hi := by simpa using ht
        have w1 : IntKind.i64.wrap ((lo : Int) + hi) = (lo : Int) + hi := w64 (by omega) (by omega)
        have w2 : IntKind.u64.wrap ((lo : Int) + hi) = (lo : Int) + hi := by simp [IntKind.wrap, IntKind.bits, IntKind.signed]; omega
        have w3 : ((lo : Int) + hi).fdiv (2 ^ 1) = (((lo + hi) / 2 : Nat) : Int) := by rw [Int.fdiv_eq_ediv_of_nonneg _ (by omega)]; omega
        have w3' : ((lo : Int) + hi).fdiv 2 = (((lo + hi) / 2 : Nat) : Int) := w3
        have w4 : IntKind.i64.wrap (((lo + hi) / 2 : Nat) : Int) = (((lo + hi) / 2 : Nat) : Int) := w64 (by omega) (by omega)
        have w5 : ((lo : Int) + hi).fdiv (2 ^ min 1 IntKind.u64.bits) = (((lo + hi) / 2 : Nat) : Int) := w3
        have hmid : (lo + hi) / 2 < n := by omega
        have hm1 : lo ≤ (lo + hi) / 2 := by omega
        have hm2 : (lo + hi) / 2 < hi := by omega
        generalize hmm : (lo + hi) / 2 = mid at *
        have hc := cl127 h h2 h3 hmid
        have w6 : IntKind.i64.wrap ((mid : Int) + 1) = (mid : Int) + 1 := w64 (by omega) (by omega)
        refine wa_sr ⟨_, by simp -implicitDefEqProofs [t5, t6, w1, w2, w5, w4]; rfl, ?_⟩
        refine wa_sr ⟨_, by simp -implicitDefEqProofs [t1, hc]; rfl, ?_⟩
        by_cases hx : x ≤ f mid
        · refine wa_cond (t := false) (by simp [hx]) (fun h => by cases h) (fun _ => ?_)
          refine wa_regs ⟨_, by simp; rfl, ?_⟩
          have : r ≤ mid := by
            rcases Nat.lt_or_ge mid r with h5 | h5
            · have := c1 mid h5; omega
            · exact h5
          exact ⟨mid - lo, by omega, lo, mid, rfl, l1, this, by omega, rfl, by simp [Rg, t1, t5]⟩
        · refine wa_cond (t := true) (by simp; omega) (fun _ => ?_) (fun h => by cases h)
          refine wa_regs ⟨_, by simp -implicitDefEqProofs [w6]; rfl, ?_⟩
          have : mid < r := by
            rcases Nat.lt_or_ge mid r with h5 | h5
            · exact h5
            · have := c2 mid h5 hmid; omega
          exact ⟨hi - (mid + 1), by omega, mid + 1, hi, rfl, by omega, l2, l3, rfl, by simp [Rg, t1, t6]⟩
      · have hge : ¬ lo < hi := by simpa using ht
        have : lo = r := by omega
        exact ⟨rfl, by simp [t5, this]⟩
    · rintro ⟨τ, H'⟩ ⟨h5, t5⟩
      dsimp only at h5 t5
      subst h5
      refine wa_sr ⟨_, by simp [t5]; rfl, ?_⟩
      exact wa_ret ⟨by simp, _, by simp; rfl, rfl, rfl⟩
  obtain ⟨v, H', h, rfl, rfl⟩ := key
  exact h
theorem pc_searchints {n r : Nat} {a : V} {f : Nat → Int} {x : Int} {H : Heap} (h : TB H a n fun j => .int .i64 (f j)) (hs : n ≤ 2 ^ 40) (hr : r ≤ n) (c1 : ∀ j, j < r → f j < x) (c2 : ∀ j, r ≤ j → j < n → x ≤ f j) :
    Pc E 94 [a, .int .i64 x] H (.int .i64 r) := Pc.mk fun G => by
  have h1 := h.app G
  generalize H ++ G = H1 at *
  have h' := h1.app [.cells [a] .ex, .cells [.int .i64 x] .ex]
  refine call_E rfl nc94 rfl ?_
  unfold gc94
  have hs := search_ok (k2 := H1.length) (k3 := H1.length + 1) h' hs (by simp) (by simp) hr c1 c2
  refine wa_sr ⟨_, by simp [len_cells h.len]; rfl, ?_⟩
  refine wa_sr ⟨_, by simp -implicitDefEqProofs [h.len, hs]; rfl, ?_⟩
  refine wa_ret ⟨by simp, _, by simp; rfl, rfl, [.cells [a] .ex, .cells [.int .i64 x] .ex], by simp⟩
/-- Tail: where a residual arc begins. -/
theorem pc_tail {c : Csr} {x : CV} {H : Heap} {i v : Nat} (h1 : TB H x.x1 (c.vs + 1) fun j => .int .i64 (c.first j)) (h2 : TB H x.x2 c.m fun j => .int .i64 (c.head j)) (hi : i < c.m) (hm : c.m ≤ 2 ^ 40) (hs : c.vs ≤ 2 ^ 20) (hv : v < c.vs)
    (c1 : ∀ j, j ≤ v → c.first j ≤ i) (c2 : ∀ j, v < j → j ≤ c.vs → (i : Int) < c.first j) : Pc E 53 [CVal c x, .int .i64 i] H (.tup [.int .i64 v, .bool true]) := Pc.mk fun G => by
  have h1' := h1.app G
  have h2' := h2.app G
  generalize H ++ G = H1 at *
  clear h1 h2
  refine call_E rfl nc53 rfl ?_
  unfold gc53 CVal
  have w1 : IntKind.i64.wrap ((i : Int) + 1) = (i : Int) + 1 := w64 (by omega) (by omega)
  obtain ⟨f1, g1⟩ := pc_len (c := c) (x := x) (H := H1) h2'.len
  obtain ⟨f2, g2⟩ := pc_searchints (r := v + 1) (x := (i : Int) + 1) h1' (by omega) (by omega) (fun j hj => by have := c1 j (by omega); omega) (fun j hj hj2 => by have := c2 j (by omega) (by omega); omega)
  unfold CVal at g1
  refine wa_sr ⟨_, by simp; rfl, ?_⟩
  have hi0 : ¬ (c.m ≤ i) := by omega
  have hi1 : ¬ ((i : Int) < 0) := by omega
  refine wa_sr ⟨_, by simp -implicitDefEqProofs [g1, hi0, hi1]; rfl, ?_⟩
  refine wa_if (t := false) (by simp [hi0]) (fun h => by cases h) (fun _ => ?_)
  have w2 : IntKind.i64.wrap ((v : Int) + 1 - 1) = v := w64 (by omega) (by omega) |>.trans (by omega)
  refine wa_sr ⟨_, by simp -implicitDefEqProofs [w1, g2]; rfl, ?_⟩
  refine wa_ret ⟨by simp, _, by simp; rfl, ?_, _, by simp; rfl⟩
  have w3 : IntKind.i64.wrap (v : Int) = v := w64 (by omega) (by omega)
  simp [w3, w2, pack]
end Go.Proofs.Ytpojdgeginigjaa
/- Residual arcs: counted, put, Make. -/
set_option linter.unusedSimpArgs false
set_option linter.unusedVariables false
namespace Go.Proofs.Ytpojdgeginigjaa
open Go Go.Ar
set_option maxRecDepth 100000

theorem inc_sd {ar : Ar.Arc} {s d v : Nat} (h1 : ar.src = s) (h2 : ar.dst = d) (hne : s ≠ d) : inc v ar = (decide (v = s) || decide (v = d)) := by
  rw [Bool.eq_iff_iff, inc_iff, h1, h2]
  simp; omega
theorem inc_loop {ar : Ar.Arc} {v : Nat} (h : ar.src = ar.dst) : inc v ar = false := by simp [inc, h]
def cntF (l : List Ar.Arc) : Nat → Nat
  | 0 => 0
  | u + 1 => deg l u
theorem cntF_s (l : List Ar.Arc) (u : Nat) : cntF l (u + 1) = deg l u := rfl
def sumF (l : List Ar.Arc) (v u : Nat) : Nat := if u ≤ v then fst l u else cntF l u
def rI (m : Nat) (f : Nat → Int) : Blk := .cells (tb m fun j => .int .i64 (f j)) .ex
def inN (vn : Nat) (l : List Ar.Arc) : Prop := ∀ x, x ∈ l → ∃ s d : Nat, x.src = s ∧ x.dst = d ∧ s < vn ∧ d < vn

set_option maxHeartbeats 2000000 in
theorem counted_ok {n : Net} {a : V} {vn : Nat} {H : Heap} (h : AL H a n.arcs) (hN : n.N = (vn : Int)) (hb : inN vn n.arcs) (hs : n.arcs.length ≤ 2 ^ 20) (hv : vn ≤ 2 ^ 12) :
    ∃ F G, callL E (.f 89) [NV n a] H = some (.sl (H ++ F).length 0 (vn + 1) (vn + 1), (H ++ F) ++ (rI (vn + 1) (fun u => (fst n.arcs u : Nat)) :: G)) := by
  have key : ∃ v H', callL E (.f 89) [NV n a] H = some (v, H') ∧ ∃ F G, v = .sl (H ++ F).length 0 (vn + 1) (vn + 1) ∧ H' = (H ++ F) ++ (rI (vn + 1) (fun u => (fst n.arcs u : Nat)) :: G) := by
    refine call_E rfl nc89 rfl ?_
    unfold gc89 NV
    have hl : lenOf a = some n.arcs.length := Rw.len h
    obtain ⟨N, S, T, l⟩ := n
    dsimp only at *
    subst hN
    have hw1 : IntKind.i64.wrap ((vn : Int) + 1) = (vn : Int) + 1 := w64 (by omega) (by omega)
    have hlim : (vn : Int) + 1 ≤ lim := by unfold lim; omega
    have hp1 : (0 : Int) ≤ (vn : Int) + 1 := by omega
    have hp2 : ((vn : Int) + 1) * 8 ≤ 1099511627776 := by omega
    have htn : ((vn : Int) + 1).toNat = vn + 1 := by omega
    refine wa_sr ⟨_, by simp [len_cells hl]; rfl, ?_⟩
    refine wa_sr ⟨_, by simp -implicitDefEqProofs [hw1, hlim, hp1, hp2, htn]; rfl, ?_⟩
    refine wa_sr ⟨_, by simp -implicitDefEqProofs [hl]; rfl, ?_⟩
    refine wa_cut (fun s => (∃ G, s.H = H ++ (nbox ⟨vn, S, T, l⟩ a :: rI (vn + 1) (fun u => (cntF l u : Nat)) :: G)) ∧ Rg s.τ [(1, .ptr H.length 0), (3, .sl (H.length + 1) 0 (vn + 1) (vn + 1))]) ?_ ?_
    · refine wa_for (n := l.length) (fun i (_ : Heap) => [(1, .ptr H.length 0), (3, .sl (H.length + 1) 0 (vn + 1) (vn + 1)), (12, a)]) (fun i G H' => H' = H ++ (nbox ⟨vn, S, T, l⟩ a :: rI (vn + 1) (fun u => (cntF (l.take i) u : Nat)) :: G)) []
        (by decide) (fun i hi => w64 (by omega) (by omega)) (by simp) (by simp) (by simp [Rg]) ?_ (by simp) ?_ ?_
      · simp only [nbox, rI]
        congr 3
        exact congrArg (fun x => Blk.cells x Ar.Mode.ex) (tb_congr fun j _ => by cases j <;> simp [cntF, deg])
      · rintro i G τ _ hi t14 t13 ⟨t1, t3, t12, -⟩ rfl
        dsimp only [ev] at *
        obtain ⟨ka, o, cc, rfl, hka, hr, _⟩ := h.at hi
        have hmem := List.getElem_mem hi
        obtain ⟨s, d, e1, e2, hsv, hdv⟩ := hb _ hmem
        have hdg := fun v => deg_take_succ l i v hi
        have hle := fun v => deg_take_le' l i v
        have hle2 := fun v => deg_le l v
        generalize l[i] = ar at *
        obtain ⟨sr, ds, cp⟩ := ar
        dsimp only at e1 e2
        subst e1 e2
        simp only [Arc.cells] at hr
        refine wa_sr ⟨_, by simp -implicitDefEqProofs [t12, t14, hi, hr]; rfl, ?_⟩
        by_cases hloop : s = d
        · subst hloop
          refine wa_sr ⟨_, by simp -implicitDefEqProofs [nbox, rI]; rfl, ?_⟩
          refine wa_cond (t := false) (by simp) (fun h => by cases h) (fun _ => wa_skip ?_)
          refine ⟨by simp [t14], by simp [t13], G ++ [.cells [.int .i64 s, .int .i64 s, .int .i64 cp] .ex], by simp [Rg, t1, t3, t12], ?_⟩
          have : ∀ u, cntF (l.take (i + 1)) u = cntF (l.take i) u := fun u => by
            cases u with
            | zero => rfl
            | succ u => simp only [cntF, hdg, inc_loop (ar := ⟨s, s, cp⟩) rfl]; rfl
          simp only [this, rI, nbox, List.append_assoc, List.cons_append]
        · have hbs : ((s : Int) == (d : Int)) = false := by simp; omega
          have hne : ((s : Int) != (d : Int)) = true := by simp [bne, hbs]
          have ws : IntKind.i64.wrap ((s : Int) + 1) = (s : Int) + 1 := w64 (by omega) (by omega)
          have wd : IntKind.i64.wrap ((d : Int) + 1) = (d : Int) + 1 := w64 (by omega) (by omega)
          have ps : (0 : Int) ≤ (s : Int) + 1 := by omega
          have pd : (0 : Int) ≤ (d : Int) + 1 := by omega
          have us : (s : Int) + 1 < (vn : Int) + 1 := by omega
          have ud : (d : Int) + 1 < (vn : Int) + 1 := by omega
          have ts : ((s : Int) + 1).toNat = s + 1 := by omega
          have td : ((d : Int) + 1).toNat = d + 1 := by omega
          have k1 : s + 1 ≤ vn := hsv
          have k2 : d + 1 ≤ vn := hdv
          have l1 : s + 1 < vn + 1 := by omega
          have l2 : d + 1 < vn + 1 := by omega
          have wc : ∀ v, IntKind.i64.wrap ((deg (l.take i) v : Int) + 1) = (deg (l.take i) v : Int) + 1 := fun v => w64 (by omega) (by have := hle v; have := hle2 v; omega)
          have hds : ¬ d = s := fun e => hloop e.symm
          refine wa_sr ⟨_, by simp -implicitDefEqProofs [nbox, rI, hne]; rfl, ?_⟩
          refine wa_cond (t := true) (by simp) (fun _ => ?_) (fun h => by cases h)
          refine wa_sr ⟨_, by simp -implicitDefEqProofs [t3, ws, ps, us, ts, l1, hsv, k1, cntF_s, wc]; rfl, ?_⟩
          refine wa_regs ⟨_, by simp -implicitDefEqProofs [t3, wd, pd, ud, td, l2, hdv, k2, cntF_s, wc, hds]; rfl, ?_⟩
          refine ⟨by simp [t14], by simp [t13], G ++ [.cells [.int .i64 s, .int .i64 d, .int .i64 cp] .ex], by simp [Rg, t1, t3, t12], ?_⟩
          simp only [rI, nbox, List.append_assoc, List.cons_append]
          congr 3
          refine congrArg (fun x => Blk.cells x Ar.Mode.ex) (tb_congr fun j _ => ?_)
          cases j with
          | zero => simp [cntF]
          | succ j =>
            simp only [cntF, hdg, inc_sd (ar := ⟨s, d, cp⟩) rfl rfl hloop]
            by_cases e1 : j = d
            · subst e1; simp
            · by_cases e2 : j = s
              · subst e2; simp [e1]
              · simp [e1, e2]
      · rintro G τ H' ⟨t1, t3, t12, -⟩ h'
        rw [List.take_length] at h'
        exact ⟨⟨G, h'⟩, by simp [Rg, t1, t3]⟩
    · rintro ⟨τ, H'⟩ ⟨⟨G, h'⟩, t1, t3, -⟩
      dsimp only at h' t1 t3
      subst h'
      refine wa_sr ⟨_, by simp -implicitDefEqProofs [t1, nbox]; rfl, ?_⟩
      refine wa_cut (fun s => (∃ G, s.H = H ++ (nbox ⟨vn, S, T, l⟩ a :: rI (vn + 1) (fun u => (fst l u : Nat)) :: G)) ∧ s.τ 3 = .sl (H.length + 1) 0 (vn + 1) (vn + 1)) ?_ ?_
      · refine wa_for (n := vn) (fun i (_ : Unit) => [(3, .sl (H.length + 1) 0 (vn + 1) (vn + 1))]) (fun i _ H' => H' = H ++ (nbox ⟨vn, S, T, l⟩ a :: rI (vn + 1) (fun u => (sumF l i u : Nat)) :: G)) ()
          (by decide) (fun i hi => w64 (by omega) (by omega)) (by simp) (by simp) (by simp [Rg, t3]) ?_ (by simp) ?_ ?_
        · simp only [nbox, rI]
          congr 3
          exact congrArg (fun x => Blk.cells x Ar.Mode.ex) (tb_congr fun j _ => by cases j <;> simp [cntF, sumF, fst])
        · clear t1 t3 τ
          rintro i _ τ _ hi t42 t41 ⟨t3, -⟩ rfl
          dsimp only [ev] at *
          have hfb := fst_le l (i + 1)
          have hfb2 : (i + 1) * l.length ≤ 2 ^ 12 * 2 ^ 20 := Nat.mul_le_mul (by omega) hs
          have ws : IntKind.i64.wrap ((i : Int) + 1) = (i : Int) + 1 := w64 (by omega) (by omega)
          have ps : (0 : Int) ≤ (i : Int) + 1 := by omega
          have us : (i : Int) + 1 < (vn : Int) + 1 := by omega
          have us2 : (i : Int) < (vn : Int) + 1 := by omega
          have ts : ((i : Int) + 1).toNat = i + 1 := by omega
          have l1 : i + 1 < vn + 1 := by omega
          have l2 : i < vn + 1 := by omega
          have k1 : i + 1 ≤ vn := hi
          have e1 : sumF l i (i + 1) = deg l i := by unfold sumF; rw [if_neg (by omega)]; rfl
          have e2 : sumF l i i = fst l i := by unfold sumF; rw [if_pos (Nat.le_refl _)]
          have wc : IntKind.i64.wrap ((deg l i : Int) + (fst l i : Int)) = (fst l (i + 1) : Nat) := by
            simp only [fst] at hfb ⊢
            rw [w64 (by omega) (by omega)]; omega
          refine wa_sr ⟨_, by simp; rfl, ?_⟩
          refine wa_drl rfl rfl ⟨_, by simp -implicitDefEqProofs [t3, t42, nbox, rI, ws, ps, us, us2, ts, l1, l2, hi, k1, e1, e2, wc]; rfl, ?_⟩
          refine ⟨by simp [t42], by simp [t41], (), by simp [Rg, t3], ?_⟩
          simp only [rI, nbox]
          congr 3
          refine congrArg (fun x => Blk.cells x Ar.Mode.ex) (tb_congr fun j _ => ?_)
          unfold sumF
          by_cases e : j = i + 1
          · subst e; simp
          · rw [if_neg e]
            by_cases e3 : j ≤ i
            · rw [if_pos e3, if_pos (by omega)]
            · rw [if_neg e3, if_neg (by omega)]
        · rintro _ τ H' ⟨t3, -⟩ h'
          refine ⟨⟨G, h'.trans ?_⟩, t3⟩
          simp only [rI, nbox]
          congr 3
          refine congrArg (fun x => Blk.cells x Ar.Mode.ex) (tb_congr fun j hj => ?_)
          unfold sumF
          rw [if_pos (by omega)]
      · rintro ⟨τ, H'⟩ ⟨⟨G, h'⟩, t3⟩
        dsimp only at h' t3
        subst h'
        refine wa_sr ⟨_, by simp -implicitDefEqProofs [t3]; rfl, ?_⟩
        exact wa_ret ⟨by simp, _, by simp; rfl, [nbox ⟨vn, S, T, l⟩ a], G, by simp [pack], by simp⟩
  obtain ⟨v, H', h1, F, G, rfl, rfl⟩ := key
  exact ⟨F, G, h1⟩
end Go.Proofs.Ytpojdgeginigjaa
/- Make: the row of a net. -/
set_option linter.unusedSimpArgs false
set_option linter.unusedVariables false
namespace Go.Proofs.Ytpojdgeginigjaa
open Go Go.Ar
set_option maxRecDepth 100000

def rN (n : Nat) (f : Nat → Nat) : Blk := .cells (tb n fun j => .int .i64 (f j : Nat)) (.gr 1)
def rB (m : Nat) (f : Nat → Bool) : Blk := .cells (tb m fun j => .bool (f j)) .ex
/-- Make's heap, as residual arcs are put. -/
def mkH (P F G3 G : Heap) (m vn : Nat) (hd rv cp ar : Nat → Int) (bk : Nat → Bool) (nx : Nat → Nat) : Heap :=
  P ++ (rI m hd :: rI m rv :: rI m cp :: rI m ar :: rB m bk :: (F ++ (rN (vn + 1) nx :: (G3 ++ (.cells [.sl (P.length + (F.length + 5)) 0 (vn + 1) (vn + 1)] .ex :: G)))))

def fupd {α : Type} (f : Nat → α) (p : Nat) (v : α) : Nat → α := fun j => if j = p then v else f j
def mkL (P F G3 G : Heap) : Nat := P.length + (F.length + (G3.length + (G.length + 1) + 1) + 5)
theorem mkH_len {P F G3 G : Heap} {m vn : Nat} {hd rv cp ar : Nat → Int} {bk : Nat → Bool} {nx : Nat → Nat} : (mkH P F G3 G m vn hd rv cp ar bk nx).length = mkL P F G3 G := by
  simp [mkH, mkL]
theorem mkH_app {P F G3 G X : Heap} {m vn : Nat} {hd rv cp ar : Nat → Int} {bk : Nat → Bool} {nx : Nat → Nat} : mkH P F G3 G m vn hd rv cp ar bk nx ++ X = mkH P F G3 (G ++ X) m vn hd rv cp ar bk nx := by
  simp [mkH]
theorem mkH_rd {P F G3 G : Heap} {m vn o : Nat} {hd rv cp ar : Nat → Int} {bk : Nat → Bool} {nx : Nat → Nat} {cs : List V} {md : Ar.Mode} : rd (mkH P F G3 (G ++ [.cells cs md]) m vn hd rv cp ar bk nx) (mkL P F G3 G) o = cs[o]? := by
  rw [← mkH_app, ← mkH_len (hd := hd) (rv := rv) (cp := cp) (ar := ar) (bk := bk) (nx := nx) (m := m) (vn := vn)]
  simp

set_option maxHeartbeats 2000000 in
theorem put_ok {P F G3 G : Heap} {m vn kc u p : Nat} {hd rv cp ar : Nat → Int} {bk : Nat → Bool} {nx : Nat → Nat} (hkc : kc < P.length)
    (h4 : ∀ X, rd (P ++ X) kc 4 = some (.sl P.length 0 m m)) (h6 : ∀ X, rd (P ++ X) kc 6 = some (.sl (P.length + 2) 0 m m)) (h7 : ∀ X, rd (P ++ X) kc 7 = some (.sl (P.length + 3) 0 m m)) (h8 : ∀ X, rd (P ++ X) kc 8 = some (.sl (P.length + 4) 0 m m))
    (hu : u < vn + 1) (hp : nx u = p) (hat0 : p < m) (hm : m ≤ 2 ^ 40) (to most k : Int) (b : Bool) :
    callL E (.f 91) [.int .i64 u, .int .i64 to, .int .i64 most, .int .i64 k, .bool b, .ptr (P.length + (F.length + (G3.length + 1) + 5)) 0, .ptr kc 0] (mkH P F G3 G m vn hd rv cp ar bk nx) =
      some (.int .i64 (p : Nat), mkH P F G3 G m vn (fun j => if j = p then to else hd j) rv (fun j => if j = p then most else cp j) (fun j => if j = p then k else ar j) (fupd bk p b) (fun j => if j = u then p + 1 else nx j)) := by
  subst hp
  have hat := hat0
  have key : ∃ v H', callL E (.f 91) [.int .i64 u, .int .i64 to, .int .i64 most, .int .i64 k, .bool b, .ptr (P.length + (F.length + (G3.length + 1) + 5)) 0, .ptr kc 0] (mkH P F G3 G m vn hd rv cp ar bk nx) = some (v, H') ∧ v = .int .i64 (nx u : Nat) ∧ H' = mkH P F G3 G m vn (fun j => if j = nx u then to else hd j) rv (fun j => if j = nx u then most else cp j) (fun j => if j = nx u then k else ar j) (fupd bk (nx u) b) (fun j => if j = u then nx u + 1 else nx j) := by
    refine call_E rfl nc91 rfl ?_
    unfold gc91
    have hu3 : u ≤ vn := by omega
    have hat2 : nx u + 1 ≤ m := hat
    have hu2 : (u : Int) < (vn : Int) + 1 := by omega
    have hw : IntKind.i64.wrap ((nx u : Int) + 1) = (nx u : Int) + 1 := w64 (by omega) (by omega)
    have n1 : (kc == P.length) = false := by simp; omega
    have n2 : (kc == P.length + 2) = false := by simp; omega
    have n3 : (kc == P.length + 3) = false := by simp; omega
    refine wa_sr ⟨_, by simp; rfl, ?_⟩
    unfold mkH rI rB rN
    refine wa_sr ⟨_, by simp -implicitDefEqProofs [hu, hu2, hu3]; rfl, ?_⟩
    refine wa_sr ⟨_, by simp -implicitDefEqProofs [hu, hu2, hu3, hw]; rfl, ?_⟩
    refine wa_seq (wa_dreg (s' := _) (by
      simp -implicitDefEqProofs [dinsL, dins, h4, h6, h7, h8, hat, hat2]
      rfl) (by simp [Chk.ok, V.blk?, n1, n2, n3, bne]) ?_)
    refine wa_sr ⟨_, by simp; rfl, ?_⟩
    refine wa_ret ⟨by simp, _, by simp; rfl, rfl, ?_⟩
    have e : ∀ j : Nat, (if j = u then V.int IntKind.i64 ((nx u : Int) + 1) else V.int IntKind.i64 (nx j : Nat)) = V.int .i64 ((if j = u then nx u + 1 else nx j : Nat) : Int) := fun j => by split <;> simp
    simp only [ite_int, ite_bool, ← e, fupd]
  obtain ⟨v, H', h1, rfl, rfl⟩ := key
  exact h1

/-- What is put of the first arcs. -/
def Filled (l : List Ar.Arc) (k : Nat) (hd rv cp ar : Nat → Int) (bk : Nat → Bool) : Prop :=
  ∀ i (hi : i < l.length), i < k → ∀ s d : Nat, l[i].src = (s : Int) → l[i].dst = (d : Int) → s ≠ d →
    (hd (pos l i s) = d ∧ rv (pos l i s) = pos l i d ∧ cp (pos l i s) = l[i].cap ∧ ar (pos l i s) = i ∧ bk (pos l i s) = false) ∧
    (hd (pos l i d) = s ∧ rv (pos l i d) = pos l i s ∧ cp (pos l i d) = 0 ∧ ar (pos l i d) = i ∧ bk (pos l i d) = true)
theorem inc_l {a : Ar.Arc} {s d : Nat} (h1 : a.src = s) (h2 : a.dst = d) (hne : s ≠ d) : inc s a = true ∧ inc d a = true := by
  constructor <;> rw [inc_iff] <;> refine ⟨by omega, ?_⟩ <;> omega
theorem filled_loop {l : List Ar.Arc} {k : Nat} {hd rv cp ar : Nat → Int} {bk : Nat → Bool} (h : Filled l k hd rv cp ar bk) (hk : k < l.length) (he : l[k].src = l[k].dst) : Filled l (k + 1) hd rv cp ar bk := by
  intro i hi hik s d e1 e2 hne
  by_cases e : i = k
  · subst e; omega
  · exact h i hi (by omega) s d e1 e2 hne
theorem filled_step {l : List Ar.Arc} {k : Nat} {hd rv cp ar : Nat → Int} {bk : Nat → Bool} (h : Filled l k hd rv cp ar bk) (hk : k < l.length) {s d : Nat} (e1 : l[k].src = s) (e2 : l[k].dst = d) (hne : s ≠ d) :
    Filled l (k + 1) (fun j => if j = pos l k d then (s : Int) else if j = pos l k s then (d : Int) else hd j) (fun j => if j = pos l k d then (pos l k s : Int) else if j = pos l k s then (pos l k d : Int) else rv j)
      (fun j => if j = pos l k d then 0 else if j = pos l k s then l[k].cap else cp j) (fun j => if j = pos l k d then (k : Int) else if j = pos l k s then (k : Int) else ar j) (fun j => if j = pos l k d then true else if j = pos l k s then false else bk j) := by
  obtain ⟨i1, i2⟩ := inc_l e1 e2 hne
  have hpq : pos l k s ≠ pos l k d := fun e => hne (pos_inj hk hk i1 i2 e).2
  intro i hi hik s' d' f1 f2 hne'
  by_cases e : i = k
  · subst e
    obtain rfl : s' = s := by omega
    obtain rfl : d' = d := by omega
    simp [hpq]
  · obtain ⟨j1, j2⟩ := inc_l f1 f2 hne'
    have a1 : pos l i s' ≠ pos l k s := fun e' => e (pos_inj hi hk j1 i1 e').1
    have a2 : pos l i s' ≠ pos l k d := fun e' => e (pos_inj hi hk j1 i2 e').1
    have a3 : pos l i d' ≠ pos l k s := fun e' => e (pos_inj hi hk j2 i1 e').1
    have a4 : pos l i d' ≠ pos l k d := fun e' => e (pos_inj hi hk j2 i2 e').1
    have := h i hi (by omega) s' d' f1 f2 hne'
    simp only [a1, a2, a3, a4, if_false]
    exact this
/-- A row of residual arcs is that of a net. -/
structure IsCsr (n : Net) (c : Csr) : Prop where
  N : c.N = n.N
  S : c.S = n.S
  T : c.T = n.T
  vs : n.N = (c.vs : Int)
  m : c.m = fst n.arcs c.vs
  fst : ∀ u, c.first u = Go.Proofs.Ytpojdgeginigjaa.fst n.arcs u
  fil : Filled n.arcs n.arcs.length c.head c.rev c.cap c.arc c.back
  inn : inN c.vs n.arcs
theorem chk_inN {n : Net} (h : chk n = 0) : ∃ vn : Nat, n.N = (vn : Int) ∧ 2 ≤ vn ∧ vn ≤ 4096 ∧ n.arcs.length ≤ 16384 ∧ inN vn n.arcs := by
  obtain ⟨h1, h2, h3, h4, h5, h6⟩ := chk_zero h
  rw [okN_iff] at h1
  rw [okM_iff] at h2
  refine ⟨n.N.toNat, by omega, by omega, by omega, h2, fun x hx => ?_⟩
  obtain ⟨a1, a2⟩ := h4 x hx
  rw [vtx_iff] at a1 a2
  exact ⟨x.src.toNat, x.dst.toNat, by omega, by omega, by omega, by omega⟩

/-- Clone of a row that is not empty. -/
theorem clone1_ok {x : V} {n : Nat} {g : Nat → V} {H : Heap} (h : TB H x n g) (hn : 0 < n) (hg : ∀ j, j < n → (g j).scalar = true) (hs : n ≤ 2 ^ 20) :
    callL E (.f 90) [x] H = some (.sl (H.length + 1) 0 n n, H ++ [.cells [] .ex, .cells (tb n g) (.gr 1)]) := by
  have key : ∃ v H', callL E (.f 90) [x] H = some (v, H') ∧ v = .sl (H.length + 1) 0 n n ∧ H' = H ++ [.cells [] .ex, .cells (tb n g) (.gr 1)] := by
    refine call_E rfl nc90 rfl ?_
    unfold gc90
    obtain ⟨k, o, c, rfl, _⟩ := h.at0 hn
    refine wa_sr ⟨_, by simp; rfl, ?_⟩
    refine wa_sr ⟨_, by simp; rfl, ?_⟩
    refine wa_if (t := false) (by simp) (fun h => by cases h) (fun _ => ?_)
    obtain ⟨x', H', e1, e2⟩ := appnew_ok (by' := 8) h.len h.cells (Rw.lt h.rw) (tb_all hg) (by simp) (by omega) (by unfold lim; omega)
    rcases e2 with ⟨e2, _⟩ | ⟨_, rfl, rfl⟩
    · omega
    refine wa_sr ⟨_, by simp -implicitDefEqProofs [fillc, e1]; rfl, ?_⟩
    exact wa_ret ⟨by simp, _, by simp; rfl, rfl, by simp⟩
  obtain ⟨v, H', h1, rfl, rfl⟩ := key
  exact h1

theorem deg_cons (a : Ar.Arc) (l : List Ar.Arc) (v : Nat) : deg (a :: l) v = deg l v + if inc v a = true then 1 else 0 := by
  unfold deg; rw [List.countP_cons]
def cnt (a : Ar.Arc) : Nat → Nat
  | 0 => 0
  | v + 1 => cnt a v + if inc v a = true then 1 else 0
theorem cnt_le (a : Ar.Arc) (hne : a.src ≠ a.dst) : ∀ v : Nat, cnt a v ≤ (if a.src < v then 1 else 0) + (if a.dst < v then 1 else 0)
  | 0 => by simp [cnt]
  | v + 1 => by
    have ih := cnt_le a hne v
    simp only [cnt]
    by_cases hi : inc v a = true
    · rw [if_pos hi]
      rw [inc_iff] at hi
      rcases hi with ⟨_, h | h⟩ <;> split at ih <;> split at ih <;> split <;> split <;> omega
    · rw [if_neg hi]
      split at ih <;> split at ih <;> split <;> split <;> omega
theorem cnt_zero (a : Ar.Arc) (he : a.src = a.dst) : ∀ v : Nat, cnt a v = 0
  | 0 => rfl
  | v + 1 => by simp only [cnt, cnt_zero a he v, inc_loop he]; rfl
theorem cnt_le2 (a : Ar.Arc) (v : Nat) : cnt a v ≤ 2 := by
  by_cases h : a.src = a.dst
  · rw [cnt_zero a h]; omega
  · have := cnt_le a h v
    split at this <;> split at this <;> omega
theorem fst_cons (a : Ar.Arc) (l : List Ar.Arc) : ∀ v, fst (a :: l) v = fst l v + cnt a v
  | 0 => rfl
  | v + 1 => by simp only [fst, cnt, fst_cons a l v, deg_cons]; omega
theorem fst_nil : ∀ v, fst [] v = 0
  | 0 => rfl
  | v + 1 => by simp only [fst, fst_nil v]; rfl
/-- There are at most two residual arcs for each arc. -/
theorem fst_le2 : ∀ (l : List Ar.Arc) (v : Nat), fst l v ≤ 2 * l.length
  | [], v => by rw [fst_nil]; omega
  | a :: l, v => by
    have h1 := fst_le2 l v
    have h2 := cnt_le2 a v
    rw [fst_cons]
    simp only [List.length_cons]; omega

/-- The rows lie from B on. -/
def CVge (x : CV) (B : Nat) : Prop := ∀ k, (x.x1.blk? = some k ∨ x.x2.blk? = some k ∨ x.x3.blk? = some k ∨ x.x4.blk? = some k ∨ x.x5.blk? = some k ∨ x.x6.blk? = some k) → B ≤ k

set_option maxHeartbeats 8000000 in
theorem make_ok {n : Net} {a : V} {H : Heap} (h : AL H a n.arcs) (hc0 : chk n = 0) :
    ∃ c x G, callL E (.f 46) [NV n a] H = some (.tup [CVal c x, .int .i64 0], H ++ G) ∧ CA (H ++ G) c x ∧ IsCsr n c ∧ CVge x H.length := by
  have key : ∃ v H', callL E (.f 46) [NV n a] H = some (v, H') ∧ ∃ c x G, v = .tup [CVal c x, .int .i64 0] ∧ H' = H ++ G ∧ CA (H ++ G) c x ∧ IsCsr n c ∧ CVge x H.length := by
    obtain ⟨vn, hvn, hv2, hv4, hlm, hin⟩ := chk_inN hc0
    refine call_E rfl nc46 rfl ?_
    unfold gc46
    have hl : lenOf a = some n.arcs.length := Rw.len h
    have hlim : ∀ x : Nat, x ≤ 2 ^ 20 → (x : Int) ≤ (lim : Nat) := fun x hx => by unfold lim; omega
    unfold NV
    refine wa_sr ⟨_, by simp [len_cells hl]; rfl, ?_⟩
    have hA := h.app [nbox n a, .cells [.int .i64 0, .int .i64 0, .int .i64 0, .nils, .nils, .nils, .nils, .nils, .nils] .ex]
    have hkb : (H ++ [nbox n a, .cells [.int .i64 0, .int .i64 0, .int .i64 0, .nils, .nils, .nils, .nils, .nils, .nils] .ex])[H.length]? = some (nbox n a) := by simp
    have hkt : (H ++ [nbox n a, .cells [.int .i64 0, .int .i64 0, .int .i64 0, .nils, .nils, .nils, .nils, .nils, .nils] .ex])[H.length + 1]? = some (.cells [.int .i64 0, .int .i64 0, .int .i64 0, .nils, .nils, .nils, .nils, .nils, .nils] .ex) := by simp
    have hHp := Hp.app H [nbox n a, .cells [.int .i64 0, .int .i64 0, .int .i64 0, .nils, .nils, .nils, .nils, .nils, .nils] .ex]
    change WP E _ ⟨_, H ++ [nbox n a, .cells [.int .i64 0, .int .i64 0, .int .i64 0, .nils, .nils, .nils, .nils, .nils, .nils] .ex]⟩ _
    generalize H ++ [nbox n a, .cells [.int .i64 0, .int .i64 0, .int .i64 0, .nils, .nils, .nils, .nils, .nils, .nils] .ex] = HA at *
    generalize hkbe : H.length = kb at *
    obtain ⟨G1, hck⟩ := (pc_check hA (by omega)).run
    rw [hc0] at hck
    unfold NV at hck
    unfold nbox at hkb
    have b1 := rdn_all (X := []) (n := 4) hkb rfl
    rw [List.append_nil] at b1
    refine wa_sr ⟨_, by simp -implicitDefEqProofs [b1, hck]; rfl, ?_⟩
    refine wa_sr ⟨_, by simp; rfl, ?_⟩
    refine wa_if (t := false) (by simp) (fun h => by cases h) (fun _ => ?_)
    have hHp := hHp.x (Hp.app HA G1)
    have hA := hA.app G1
    have hkb := get_pre (X := G1) hkb
    have hkt := get_pre (X := G1) hkt
    clear b1 hck
    generalize HA ++ G1 = HB at *
    have lkb := lt_of_get hkb
    have lkt := lt_of_get hkt
    -- counted
    have hAp : AL (prot [HB.length] (HB ++ [.dead])) a n.arcs := (hA.app [.dead]).prot fun k hk => by have := Rw.lt hA k hk; simp; omega
    obtain ⟨F, G2, hcn⟩ := counted_ok hAp hvn hin (by omega) (by omega)
    rw [List.append_assoc] at hcn
    have hcn' := pcall_ok hcn
    have hlen : (prot [HB.length] (HB ++ [Blk.dead]) ++ F).length = HB.length + (F.length + 1) := by simp [length_prot]; omega
    rw [hlen] at hcn'
    unfold NV at hcn'
    have q : ∀ X o, rd (HB ++ X) kb o = [V.int .i64 n.N, .int .i64 n.S, .int .i64 n.T, a][o]? := fun X o => rd_pre hkb
    have q4 : ∀ X, rdn (HB ++ X) kb 0 4 = some [V.int .i64 n.N, .int .i64 n.S, .int .i64 n.T, a] := fun X => rdn_all hkb rfl
    have nb : (kb == HB.length) = false := by simp; omega
    refine wa_seq (wa_dreg (s' := _) (by
      simp -implicitDefEqProofs [dinsL, dins, newOf, q, q4, hcn', fillc, getElem?_app0, set_app0]
      rfl) (by simp [Chk.ok, V.blk?, nb, bne]) ?_)
    rw [hvn]
    have hC5 : (HB ++ Blk.cells [V.int .i64 vn, .int .i64 n.S, .int .i64 n.T, .sl (HB.length + (F.length + 1)) 0 (vn + 1) (vn + 1), .nils, .nils, .nils, .nils, .nils] .ex :: (F ++ (rI (vn + 1) fun u => ↑(fst n.arcs u)) :: G2))[HB.length]? = some (.cells [V.int .i64 vn, .int .i64 n.S, .int .i64 n.T, .sl (HB.length + (F.length + 1)) 0 (vn + 1) (vn + 1), .nils, .nils, .nils, .nils, .nils] .ex) := getElem?_app0
    have hC1 : (HB ++ Blk.cells [V.int .i64 vn, .int .i64 n.S, .int .i64 n.T, .sl (HB.length + (F.length + 1)) 0 (vn + 1) (vn + 1), .nils, .nils, .nils, .nils, .nils] .ex :: (F ++ (rI (vn + 1) fun u => ↑(fst n.arcs u)) :: G2))[HB.length + (F.length + 1)]? = some (rI (vn + 1) fun u => ↑(fst n.arcs u)) := by simp
    have hHp := hHp.x (Hp.app HB (Blk.cells [V.int .i64 vn, .int .i64 n.S, .int .i64 n.T, .sl (HB.length + (F.length + 1)) 0 (vn + 1) (vn + 1), .nils, .nils, .nils, .nils, .nils] .ex :: (F ++ (rI (vn + 1) fun u => ↑(fst n.arcs u)) :: G2)))
    have hA := hA.app (Blk.cells [V.int .i64 vn, .int .i64 n.S, .int .i64 n.T, .sl (HB.length + (F.length + 1)) 0 (vn + 1) (vn + 1), .nils, .nils, .nils, .nils, .nils] .ex :: (F ++ (rI (vn + 1) fun u => ↑(fst n.arcs u)) :: G2))
    have hkb := get_pre (X := Blk.cells [V.int .i64 vn, .int .i64 n.S, .int .i64 n.T, .sl (HB.length + (F.length + 1)) 0 (vn + 1) (vn + 1), .nils, .nils, .nils, .nils, .nils] .ex :: (F ++ (rI (vn + 1) fun u => ↑(fst n.arcs u)) :: G2)) hkb
    have hkt := get_pre (X := Blk.cells [V.int .i64 vn, .int .i64 n.S, .int .i64 n.T, .sl (HB.length + (F.length + 1)) 0 (vn + 1) (vn + 1), .nils, .nils, .nils, .nils, .nils] .ex :: (F ++ (rI (vn + 1) fun u => ↑(fst n.arcs u)) :: G2)) hkt
    change WP E _ ⟨_, HB ++ Blk.cells [V.int .i64 vn, .int .i64 n.S, .int .i64 n.T, .sl (HB.length + (F.length + 1)) 0 (vn + 1) (vn + 1), .nils, .nils, .nils, .nils, .nils] .ex :: (F ++ (rI (vn + 1) fun u => ↑(fst n.arcs u)) :: G2)⟩ _
    have ne1 : HB.length ≠ HB.length + (F.length + 1) := by omega
    have hk1n : HB.length + (F.length + 1) ≠ kb + 1 := by omega
    have hk1g : kb ≤ HB.length + (F.length + 1) := by omega
    clear hcn hcn' hlen hAp q q4 nb
    generalize HB ++ Blk.cells [V.int .i64 vn, .int .i64 n.S, .int .i64 n.T, .sl (HB.length + (F.length + 1)) 0 (vn + 1) (vn + 1), .nils, .nils, .nils, .nils, .nils] .ex :: (F ++ (rI (vn + 1) fun u => ↑(fst n.arcs u)) :: G2) = HC at *
    generalize HB.length + (F.length + 1) = k1 at *
    have hle := hHp.le
    generalize HB.length = kc at *
    refine wa_rg [(1, .ptr kb 0), (2, .ptr (kb + 1) 0), (5, .ptr kc 0)] (by simp [Rg]) ?_
    rintro τ ⟨t1, t2, t5, -⟩
    dsimp only at t1 t2 t5
    have hm2 := fst_le2 n.arcs vn
    rw [hvn] at hkb
    have c3 : rd HC kc 3 = some (.sl k1 0 (vn + 1) (vn + 1)) := rd_get hC5
    have b0 : rd HC kb 0 = some (.int .i64 vn) := rd_get hkb
    have f1 : rd HC k1 vn = some (.int .i64 (fst n.arcs vn : Nat)) := by rw [rd_get hC1]; simp
    have hvv : (vn : Int) < (vn : Int) + 1 := by omega
    refine wa_sr ⟨_, by simp -implicitDefEqProofs [t5, t1, c3, b0, f1, hvv]; rfl, ?_⟩
    refine wa_rg [(1, .ptr kb 0), (2, .ptr (kb + 1) 0), (5, .ptr kc 0), (6, .int .i64 (fst n.arcs vn : Nat))] (by simp [Rg, t1, t2, t5]) ?_
    clear t1 t2 t5 τ
    rintro τ ⟨t1, t2, t5, t6, -⟩
    dsimp only at t1 t2 t5 t6
    obtain ⟨PP, hPP, lPP, gPP, oPP, wPP⟩ := boxed hC5
    have lkc := lt_of_get hC5
    rw [hPP]
    have lm : ((fst n.arcs vn : Nat) : Int) ≤ (lim : Nat) := by unfold lim; omega
    have lm8 : ((fst n.arcs vn : Nat) : Int) * 8 ≤ 1099511627776 := by omega
    have lm1 : ((fst n.arcs vn : Nat) : Int) ≤ 1099511627776 := by omega
    generalize hmm : fst n.arcs vn = m at *
    have nk : ∀ j, (kc == (PP [V.int .i64 vn, .int .i64 n.S, .int .i64 n.T, .sl k1 0 (vn + 1) (vn + 1), .nils, .nils, .nils, .nils, .nils]).length + j) = false := fun j => by rw [lPP]; simp; omega
    refine wa_seq (wa_dreg (s' := _) (by
      simp -implicitDefEqProofs [dinsL, dins, newOf, t5, t6, List.replicate, lm, lm8, lm1, getElem?_app0, set_app0, wPP]
      rfl) (by simp [Chk.ok, V.blk?, nk, bne]) ?_)
    simp only [lPP]
    have lP := lPP [V.int .i64 vn, .int .i64 n.S, .int .i64 n.T, .sl k1 0 (vn + 1) (vn + 1), .sl HC.length 0 m m, .sl (HC.length + 1) 0 m m, .sl (HC.length + 2) 0 m m, .sl (HC.length + 3) 0 m m, .sl (HC.length + 4) 0 m m]
    have gP := gPP [V.int .i64 vn, .int .i64 n.S, .int .i64 n.T, .sl k1 0 (vn + 1) (vn + 1), .sl HC.length 0 m m, .sl (HC.length + 1) 0 m m, .sl (HC.length + 2) 0 m m, .sl (HC.length + 3) 0 m m, .sl (HC.length + 4) 0 m m]
    have oP := oPP [V.int .i64 vn, .int .i64 n.S, .int .i64 n.T, .sl k1 0 (vn + 1) (vn + 1), .sl HC.length 0 m m, .sl (HC.length + 1) 0 m m, .sl (HC.length + 2) 0 m m, .sl (HC.length + 3) 0 m m, .sl (HC.length + 4) 0 m m]
    change WP E _ ⟨_, PP [V.int .i64 vn, .int .i64 n.S, .int .i64 n.T, .sl k1 0 (vn + 1) (vn + 1), .sl HC.length 0 m m, .sl (HC.length + 1) 0 m m, .sl (HC.length + 2) 0 m m, .sl (HC.length + 3) 0 m m, .sl (HC.length + 4) 0 m m] ++ [rI m fun _ => 0, rI m fun _ => 0, rI m fun _ => 0, rI m fun _ => 0, rB m fun _ => false]⟩ _
    generalize PP [V.int .i64 vn, .int .i64 n.S, .int .i64 n.T, .sl k1 0 (vn + 1) (vn + 1), .sl HC.length 0 m m, .sl (HC.length + 1) 0 m m, .sl (HC.length + 2) 0 m m, .sl (HC.length + 3) 0 m m, .sl (HC.length + 4) 0 m m] = P at *
    refine wa_rg [(1, .ptr kb 0), (2, .ptr (kb + 1) 0), (5, .ptr kc 0)] (by simp [Rg, t1, t2, t5]) ?_
    clear t1 t2 t5 t6 τ hPP lPP gPP oPP wPP nk
    rintro τ ⟨t1, t2, t5, -⟩
    dsimp only at t1 t2 t5
    have hHp : Hp H P [] := Hp_frame hHp lP oP (by omega)
    rw [← lP] at gP lkc
    have gk1 : P[k1]? = some (rI (vn + 1) fun u => ↑(fst n.arcs u)) := (oP k1 (fun e => ne1 e.symm)).trans hC1
    have gkb : P[kb]? = some (.cells [V.int .i64 vn, .int .i64 n.S, .int .i64 n.T, a] .ex) := (oP kb (by omega)).trans hkb
    have gkt := (oP (kb + 1) (by omega)).trans hkt
    have hA : AL P a n.arcs := hHp.rw h
    clear hC5 hC1 oP lP c3 b0 f1 hle
    have p3 : ∀ X, rd (P ++ X) kc 3 = some (.sl k1 0 (vn + 1) (vn + 1)) := fun X => rd_pre gP
    have p4 : ∀ X, rd (P ++ X) kc 4 = some (.sl P.length 0 m m) := fun X => rd_pre gP
    have p5 : ∀ X, rd (P ++ X) kc 5 = some (.sl (P.length + 1) 0 m m) := fun X => rd_pre gP
    have p6 : ∀ X, rd (P ++ X) kc 6 = some (.sl (P.length + 2) 0 m m) := fun X => rd_pre gP
    have p7 : ∀ X, rd (P ++ X) kc 7 = some (.sl (P.length + 3) 0 m m) := fun X => rd_pre gP
    have p8 : ∀ X, rd (P ++ X) kc 8 = some (.sl (P.length + 4) 0 m m) := fun X => rd_pre gP
    have pb3 : ∀ X, rd (P ++ X) kb 3 = some a := fun X => rd_pre gkb
    have hT1 : ∀ X, TB (P ++ X) (.sl k1 0 (vn + 1) (vn + 1)) (vn + 1) fun u => .int .i64 (fst n.arcs u : Nat) := fun X => TB.own (G := []) (get_pre gk1)
    have hcl := fun X => clone1_ok (hT1 X) (by omega) (fun j _ => rfl) (by omega)
    refine wa_sr ⟨_, by simp -implicitDefEqProofs [t5, p3, hcl]; rfl, ?_⟩
    refine wa_sr ⟨_, by simp; rfl, ?_⟩
    have hst : P ++ [rI m fun _ => 0, rI m fun _ => 0, rI m fun _ => 0, rI m fun _ => 0, rB m fun _ => false, .cells [] .ex, rN (vn + 1) (fst n.arcs), .cells [.sl (P.length + 6) 0 (vn + 1) (vn + 1)] .ex] = mkH P [.cells [] .ex] [] [] m vn (fun _ => 0) (fun _ => 0) (fun _ => 0) (fun _ => 0) (fun _ => false) (pos n.arcs 0) := by
      simp only [mkH, List.length_singleton, List.nil_append, List.cons_append, Nat.reduceAdd]
      rfl
    refine wa_sr ⟨_, by simp -implicitDefEqProofs [t1, pb3, hl]; rfl, ?_⟩
    change WP E _ ⟨_, P ++ [rI m fun _ => 0, rI m fun _ => 0, rI m fun _ => 0, rI m fun _ => 0, rB m fun _ => false, .cells [] .ex, rN (vn + 1) (fst n.arcs), .cells [.sl (P.length + 6) 0 (vn + 1) (vn + 1)] .ex]⟩ _
    rw [hst]
    clear hst hcl
    refine wa_cut (fun s => ∃ (hd rv cp ar : Nat → Int) (bk : Nat → Bool) (nx : Nat → Nat) (G : Heap), s.H = mkH P [.cells [] .ex] [] G m vn hd rv cp ar bk nx ∧ Filled n.arcs n.arcs.length hd rv cp ar bk ∧ Rg s.τ [(2, .ptr (kb + 1) 0), (5, .ptr kc 0)]) ?_ ?_
    · refine wa_for (n := n.arcs.length) (fun i (y : (Nat → Int) × (Nat → Int) × (Nat → Int) × (Nat → Int) × (Nat → Bool) × Heap) => [(2, .ptr (kb + 1) 0), (5, .ptr kc 0), (8, .fn 91 [] [.ptr (P.length + 7) 0, .ptr kc 0]), (54, a)])
        (fun i y H' => H' = mkH P [.cells [] .ex] [] y.2.2.2.2.2 m vn y.1 y.2.1 y.2.2.1 y.2.2.2.1 y.2.2.2.2.1 (pos n.arcs i) ∧ Filled n.arcs i y.1 y.2.1 y.2.2.1 y.2.2.2.1 y.2.2.2.2.1) (fun _ => 0, fun _ => 0, fun _ => 0, fun _ => 0, fun _ => false, [])
        (by decide) (fun i hi => w64 (by omega) (by omega)) (by simp) (by simp) (by simp [Rg, t1, t2, t5]) ⟨rfl, fun i hi h => by omega⟩ (by simp) ?_ ?_
      · clear t1 t2 t5 τ
        rintro i ⟨hd, rv, cp, ar, bk, G⟩ τ _ hi t56 t55 ⟨t2, t5, t8, t54, -⟩ ⟨rfl, hF⟩
        dsimp only [ev] at *
        obtain ⟨ka, o, cc, hae, _, hra, _⟩ := AL.at hA hi
        obtain ⟨s, d, e1, e2, hsv, hdv⟩ := hin _ (List.getElem_mem hi)
        have hra' : rdn (mkH P [.cells [] .ex] [] G m vn hd rv cp ar bk (pos n.arcs i)) ka (o + i * 3) 3 = some (n.arcs[i].cells) := hra _
        have hcp := fun (s d : Nat) (e1 : n.arcs[i].src = (s : Int)) (e2 : n.arcs[i].dst = (d : Int)) hne => filled_step hF hi (s := s) (d := d) e1 e2 hne
        have hlp := filled_loop hF hi
        have hsucc := fun v => pos_succ (v := v) hi
        have hlt := fun v h => pos_lt (v := v) hi h
        have hmo := fun v (hv : v + 1 ≤ vn) => fst_mono n.arcs hv
        generalize hari : n.arcs[i] = av at *
        obtain ⟨sr, ds, cav⟩ := av
        dsimp only at e1 e2 hcp hlp
        subst e1 e2
        simp only [Arc.cells] at hra'
        refine wa_sr ⟨_, by simp -implicitDefEqProofs [t54, t56, hae, hi, hra']; rfl, ?_⟩
        have kA := fun hd rv cp ar bk nx o => mkH_rd (P := P) (F := [.cells [] .ex]) (G3 := []) (G := G) (m := m) (vn := vn) (hd := hd) (rv := rv) (cp := cp) (ar := ar) (bk := bk) (nx := nx) (o := o) (cs := [.int .i64 s, .int .i64 d, .int .i64 cav]) (md := .ex)
        rw [mkH_app, mkH_len]
        generalize mkL P [.cells [] .ex] [] G = k10 at *
        by_cases hloop : s = d
        · subst hloop
          refine wa_sr ⟨_, by simp -implicitDefEqProofs [kA]; rfl, ?_⟩
          refine wa_if (t := true) (by simp) (fun _ => wa_ex ?_) (fun h => by cases h)
          refine ⟨by simp [t56], by simp [t55], (hd, rv, cp, ar, bk, G ++ [.cells [.int .i64 s, .int .i64 s, .int .i64 cav] .ex]), by simp [Rg, t2, t5, t8, t54, hae], ?_, hlp rfl⟩
          have : pos n.arcs (i + 1) = pos n.arcs i := funext fun v => by rw [hsucc, inc_loop (ar := ⟨s, s, cav⟩) rfl]; rfl
          rw [this]
        · have hbs : ((s : Int) == (d : Int)) = false := by simp; omega
          have hds : d ≠ s := fun e => hloop e.symm
          obtain ⟨i1, i2⟩ := inc_l (a := ⟨s, d, cav⟩) rfl rfl hloop
          have hlp : pos n.arcs i s < m := by have := hlt s i1; have := hmo s hsv; omega
          have hlq : pos n.arcs i d < m := by have := hlt d i2; have := hmo d hdv; omega
          have hpq : pos n.arcs i s ≠ pos n.arcs i d := fun e => hloop (pos_inj hi hi (by rw [hari]; exact i1) (by rw [hari]; exact i2) e).2
          have hF' := hcp s d rfl rfl hloop
          have hnx : (fun j => if j = d then pos n.arcs i d + 1 else if j = s then pos n.arcs i s + 1 else pos n.arcs i j) = pos n.arcs (i + 1) := funext fun v => by
            rw [hsucc, inc_sd (ar := ⟨s, d, cav⟩) rfl rfl hloop]
            by_cases e1 : v = d
            · subst e1; simp
            · by_cases e2 : v = s
              · subst e2; simp [hloop]
              · simp [e1, e2]
          rw [← hnx]
          have hput := fun G hd rv cp ar bk nx p u hu hp hat to most k b => put_ok (vn := vn) (F := [.cells [] .ex]) (G3 := []) (G := G) (hd := hd) (rv := rv) (cp := cp) (ar := ar) (bk := bk) (nx := nx) (p := p) (u := u) lkc p4 p6 p7 p8 hu hp hat (by omega : m ≤ 2 ^ 40) to most k b
          simp only [List.length_cons, List.length_nil, Nat.zero_add, Nat.reduceAdd] at hput
          have hp1 := hput (G ++ [.cells [.int .i64 s, .int .i64 d, .int .i64 cav] .ex]) hd rv cp ar bk (pos n.arcs i) _ s (by omega) rfl hlp d cav i false
          have hp2 := hput (G ++ [.cells [.int .i64 s, .int .i64 d, .int .i64 cav] .ex]) (fun j => if j = pos n.arcs i s then (d : Int) else hd j) rv (fun j => if j = pos n.arcs i s then cav else cp j) (fun j => if j = pos n.arcs i s then (i : Int) else ar j) (fupd bk (pos n.arcs i s) false) (fun j => if j = s then pos n.arcs i s + 1 else pos n.arcs i j) (pos n.arcs i d) d (by omega) (if_neg hds) hlq s 0 i true
          generalize hpp : pos n.arcs i s = p at *
          generalize hqq : pos n.arcs i d = q at *
          refine wa_sr ⟨_, by simp -implicitDefEqProofs [kA, hbs]; rfl, ?_⟩
          refine wa_if (t := false) (by simp) (fun h => by cases h) (fun _ => ?_)
          refine wa_sr ⟨_, by simp -implicitDefEqProofs [kA, t8, hp1]; rfl, ?_⟩
          refine wa_sr ⟨_, by simp -implicitDefEqProofs [kA, t8, hp2]; rfl, ?_⟩
          have n1 : (kc == P.length + 1) = false := by simp; omega
          have p5' : ∀ G hd rv cp ar bk nx, rd (mkH P [.cells [] .ex] [] G m vn hd rv cp ar bk nx) kc 5 = some (.sl (P.length + 1) 0 m m) := fun G hd rv cp ar bk nx => p5 _
          have w5 : ∀ G hd rv cp ar bk nx j v, j < m → wr (mkH P [.cells [] .ex] [] G m vn hd rv cp ar bk nx) (P.length + 1) j [.int .i64 v] = some (mkH P [.cells [] .ex] [] G m vn hd (fun x => if x = j then v else rv x) cp ar bk nx) := fun G hd rv cp ar bk nx j v hj => by
            have hj2 : j + 1 ≤ m := hj
            simp [mkH, rI, hj, hj2, ite_int]
          refine wa_dreg (s' := _) (by
            simp -implicitDefEqProofs [dinsL, dins, t5, p5', w5, hlp, hlq]
            rfl) (by simp [Chk.ok, V.blk?, n1, bne]) ?_
          refine ⟨by simp [t56], by simp [t55], (_, _, _, _, _, G ++ [.cells [.int .i64 s, .int .i64 d, .int .i64 cav] .ex]), by simp [Rg, t2, t5, t8, t54, hae], ?_, hF'⟩
          rfl
      · rintro ⟨hd, rv, cp, ar, bk, G⟩ τ H' ⟨t2, t5, -⟩ ⟨hH', hF⟩
        exact ⟨hd, rv, cp, ar, bk, _, G, hH', hF, by simp [Rg, t2, t5]⟩
    · rintro ⟨τ, H'⟩ ⟨hd, rv, cp, ar, bk, nx, G, hH', hF, t2, t5, -⟩
      dsimp only at hH' t2 t5
      subst hH'
      have p9 : rdn (mkH P [.cells [] .ex] [] G m vn hd rv cp ar bk nx) kc 0 9 = some [.int .i64 vn, .int .i64 n.S, .int .i64 n.T, .sl k1 0 (vn + 1) (vn + 1), .sl P.length 0 m m, .sl (P.length + 1) 0 m m, .sl (P.length + 2) 0 m m, .sl (P.length + 3) 0 m m, .sl (P.length + 4) 0 m m] := rdn_all gP rfl
      have gt : (mkH P [.cells [] .ex] [] G m vn hd rv cp ar bk nx)[kb + 1]? = some (.cells [.int .i64 0, .int .i64 0, .int .i64 0, .nils, .nils, .nils, .nils, .nils, .nils] .ex) := get_pre gkt
      have r2 : (mkH P [.cells [] .ex] [] G m vn hd rv cp ar bk nx)[P.length]? = some (rI m hd) := by simp [mkH, getElem?_app0]
      have r3 : (mkH P [.cells [] .ex] [] G m vn hd rv cp ar bk nx)[P.length + 1]? = some (rI m rv) := by simp [mkH]
      have r4 : (mkH P [.cells [] .ex] [] G m vn hd rv cp ar bk nx)[P.length + 2]? = some (rI m cp) := by simp [mkH]
      have r5 : (mkH P [.cells [] .ex] [] G m vn hd rv cp ar bk nx)[P.length + 3]? = some (rI m ar) := by simp [mkH]
      have r6 : (mkH P [.cells [] .ex] [] G m vn hd rv cp ar bk nx)[P.length + 4]? = some (rB m bk) := by simp [mkH]
      have r1 : (mkH P [.cells [] .ex] [] G m vn hd rv cp ar bk nx)[k1]? = some (rI (vn + 1) fun u => ↑(fst n.arcs u)) := get_pre gk1
      have hHp2 : Hp H (mkH P [.cells [] .ex] [] G m vn hd rv cp ar bk nx) [] := hHp.x (Hp.app P _)
      have lkt := lt_of_get gkt
      generalize mkH P [.cells [] .ex] [] G m vn hd rv cp ar bk nx = HF at *
      obtain ⟨HG, w, gG, oG, lG⟩ : ∃ X, wr HF (kb + 1) 0 [.int .i64 vn, .int .i64 n.S, .int .i64 n.T, .sl k1 0 (vn + 1) (vn + 1), .sl P.length 0 m m, .sl (P.length + 1) 0 m m, .sl (P.length + 2) 0 m m, .sl (P.length + 3) 0 m m, .sl (P.length + 4) 0 m m] = some X ∧ X[kb + 1]? = some (.cells [.int .i64 vn, .int .i64 n.S, .int .i64 n.T, .sl k1 0 (vn + 1) (vn + 1), .sl P.length 0 m m, .sl (P.length + 1) 0 m m, .sl (P.length + 2) 0 m m, .sl (P.length + 3) 0 m m, .sl (P.length + 4) 0 m m] .ex) ∧ (∀ j, j ≠ kb + 1 → X[j]? = HF[j]?) ∧ X.length = HF.length :=
        ⟨_, wrAll gt rfl rfl rfl, List.getElem?_set_self (lt_of_get gt), fun j hj => List.getElem?_set_ne (fun e => hj e.symm), by simp⟩
      have g9 := rdn_all (X := []) (n := 9) gG rfl
      rw [List.append_nil] at g9
      refine wa_sr ⟨_, by simp -implicitDefEqProofs [t2, t5, p9, w]; rfl, ?_⟩
      obtain ⟨GG, hGG⟩ := (Hp_frame hHp2 lG oG (by omega)).eq
      refine wa_ret ⟨by simp, _, by simp -implicitDefEqProofs [t2, g9]; rfl, ⟨vn, n.S, n.T, vn, m, fun u => (fst n.arcs u : Nat), hd, rv, cp, ar, bk⟩, ⟨.sl k1 0 (vn + 1) (vn + 1), .sl P.length 0 m m, .sl (P.length + 1) 0 m m, .sl (P.length + 2) 0 m m, .sl (P.length + 3) 0 m m, .sl (P.length + 4) 0 m m⟩, GG, rfl, hGG, ?_, ?_, ?_⟩
      · rw [← hGG]
        exact ⟨TB.own (G := []) ((oG _ hk1n).trans r1), TB.own (G := []) ((oG _ (by omega)).trans r2), TB.own (G := []) ((oG _ (by omega)).trans r3), TB.own (G := []) ((oG _ (by omega)).trans r4), TB.own (G := []) ((oG _ (by omega)).trans r5), TB.own (G := []) ((oG _ (by omega)).trans r6)⟩
      · exact ⟨hvn.symm, rfl, rfl, hvn, hmm.symm, fun u => rfl, hF, hin⟩
      · intro k hk
        have := hHp.le
        simp only [V.blk?, Option.some.injEq] at hk
        omega
  obtain ⟨v, H', h1, c, x, G, rfl, rfl, h2, h3, h4⟩ := key
  exact ⟨c, x, G, h1, h2, h3, h4⟩
end Go.Proofs.Ytpojdgeginigjaa
/- Some: a net made right. -/
set_option linter.unusedSimpArgs false
set_option linter.unusedVariables false
namespace Go.Proofs.Ytpojdgeginigjaa
open Go Go.Ar
set_option maxRecDepth 100000

def absc (c : Int) : Int := if c < 0 then -(c + 1) else c
theorem absc_b {c : Int} (h : i64b c) : 0 ≤ absc c ∧ absc c ≤ 9223372036854775807 := by
  unfold i64b at h
  unfold absc; split <;> omega
def someA (N : Int) (a : Ar.Arc) : Ar.Arc := ⟨a.src % N, a.dst % N, absc a.cap % 1125899906842624⟩
def someN (n : Net) (vs : Int) (m : Nat) : Net :=
  let N := 2 + n.N % (vs - 1)
  let S := n.S % N
  let T := n.T % N
  ⟨N, S, if S = T then (S + 1) % N else T, (n.arcs.take m).map (someA N)⟩

set_option maxHeartbeats 4000000 in
theorem some_ok {n : Net} {a : V} {H : Heap} (hin : NetIn H n a) {vs ms : Int} {m : Nat} (hms : ms = m) (hvs : 2 ≤ vs) (hvs2 : vs ≤ 4096) (hm : m ≤ 1000) :
    ∃ x G, callL E (.f 31) [NV n a, .int .i64 vs, .int .i64 ms] H = some (NV (someN n vs m) x, H ++ G) ∧ Own3 (H ++ G) H.length x (someN n vs m).arcs := by
  have key : ∃ v H', callL E (.f 31) [NV n a, .int .i64 vs, .int .i64 ms] H = some (v, H') ∧ ∃ x G, v = NV (someN n vs m) x ∧ H' = H ++ G ∧ Own3 (H ++ G) H.length x (someN n vs m).arcs := by
    refine call_E rfl nc31 rfl ?_
    unfold gc31
    have h := hin.al
    have hl : lenOf a = some n.arcs.length := Rw.len h
    have hN0 : 0 ≤ n.N % (vs - 1) ∧ n.N % (vs - 1) < vs - 1 := ⟨Int.emod_nonneg _ (by omega), Int.emod_lt_of_pos _ (by omega)⟩
    have hw1 : IntKind.i64.wrap (vs - 1) = vs - 1 := w64 (by omega) (by omega)
    have am1 := fun H => among_ok (x := n.N) (n := vs - 1) (by omega) (by omega) H
    have hw2 : IntKind.i64.wrap (2 + n.N % (vs - 1)) = 2 + n.N % (vs - 1) := w64 (by omega) (by omega)
    unfold NV
    refine wa_sr ⟨_, by simp [len_cells hl]; rfl, ?_⟩
    refine wa_sr ⟨_, by simp -implicitDefEqProofs [hw1, am1, hw2, fillc]; rfl, ?_⟩
    unfold someN
    dsimp only
    generalize hNN : 2 + n.N % (vs - 1) = N at *
    have am2 := fun H x => among_ok (x := x) (n := N) (by omega) (by omega) H
    have hS : 0 ≤ n.S % N ∧ n.S % N < N := ⟨Int.emod_nonneg _ (by omega), Int.emod_lt_of_pos _ (by omega)⟩
    have hT : 0 ≤ n.T % N ∧ n.T % N < N := ⟨Int.emod_nonneg _ (by omega), Int.emod_lt_of_pos _ (by omega)⟩
    refine wa_sr ⟨_, by simp -implicitDefEqProofs [am2]; rfl, ?_⟩
    refine wa_sr ⟨_, by simp -implicitDefEqProofs [am2]; rfl, ?_⟩
    generalize n.S % N = S at *
    generalize n.T % N = T0 at *
    refine wa_sr ⟨_, by simp -implicitDefEqProofs; rfl, ?_⟩
    have hws : IntKind.i64.wrap (S + 1) = S + 1 := w64 (by omega) (by omega)
    have htm : (S + 1).tmod N = (S + 1) % N := Int.tmod_eq_emod_of_nonneg (by omega)
    have hT1 : 0 ≤ (if S = T0 then (S + 1) % N else T0) ∧ (if S = T0 then (S + 1) % N else T0) < N := by
      split
      · exact ⟨Int.emod_nonneg _ (by omega), Int.emod_lt_of_pos _ (by omega)⟩
      · exact hT
    refine wa_cut (fun s => s.H = H ++ [nbox n a, .cells [.int .i64 0, .int .i64 0, .int .i64 0, .nils] .ex, nbox ⟨N, S, if S = T0 then (S + 1) % N else T0, []⟩ .nils] ∧ Rg s.τ [(2, .int .i64 ms), (3, .ptr H.length 0), (6, .ptr (H.length + 1) 0), (7, .ptr (H.length + 2) 0)]) ?_ ?_
    · by_cases hST : S = T0
      · refine wa_cond (t := true) (by simp [hST]) (fun _ => ?_) (fun h => by cases h)
        have hN : ¬ N = 0 := by omega
        refine wa_regs ⟨_, by simp -implicitDefEqProofs [hws, hN, htm]; rfl, ?_⟩
        rw [if_pos hST]
        exact ⟨by simp [nbox], by simp [Rg]⟩
      · refine wa_cond (t := false) (by simp [hST]) (fun h => by cases h) (fun _ => wa_skip ?_)
        rw [if_neg hST]
        exact ⟨by simp [nbox], by simp [Rg]⟩
    generalize (if S = T0 then (S + 1) % N else T0) = T at *
    clear hT hws htm am1 hw2
    rintro ⟨τ, H2⟩ ⟨hH2, t2, t3, t6, t7, -⟩
    dsimp only at hH2 t2 t3 t6 t7
    have hA2 : AL H2 a n.arcs := by rw [hH2]; exact h.app _
    have hg2 : SlG H2 3 a := by rw [hH2]; exact hin.sg.app _
    have r3 : ∀ G, rd (H2 ++ G) H.length 3 = some a := fun G => by rw [hH2]; simp [nbox]
    have hml := hin.len
    obtain ⟨x', e1, e2, _, e4⟩ := AL.slice (l := n.arcs) hA2 hg2 (lo := none) (hi := some (.int .i64 ((min n.arcs.length m : Nat) : Int))) (i := 0) (m := min n.arcs.length m) rfl rfl (by omega) (Nat.min_le_left _ _)
    have hmn : (if m < n.arcs.length then (m : Int) else (n.arcs.length : Int)) = ((min n.arcs.length m : Nat) : Int) := by split <;> omega
    have e1' : slcv H2 3 a none (some (.int .i64 (if m < n.arcs.length then (m : Int) else (n.arcs.length : Int)))) = some x' := by rw [hmn]; exact e1
    have hll : ((n.arcs.take (min n.arcs.length m)).drop 0) = n.arcs.take m := by
      rw [List.drop_zero]
      rcases Nat.le_total n.arcs.length m with h1 | h1
      · rw [Nat.min_eq_left h1, List.take_length, List.take_of_length_le h1]
      · rw [Nat.min_eq_right h1]
    rw [hll] at e2
    have hx'l : lenOf x' = some (n.arcs.take m).length := Rw.len e2
    have r3e := r3 []
    rw [List.append_nil] at r3e
    subst hms
    have hbnd : ∀ x, x ∈ n.arcs.take m → i64b x.src ∧ i64b x.dst ∧ i64b x.cap := fun x hx => hin.arc x (List.mem_of_mem_take hx)
    have hLm : (n.arcs.take m).length ≤ 1000 := by simp; omega
    generalize hL : n.arcs.take m = L at *
    refine wa_sr ⟨_, by simp -implicitDefEqProofs [t2, t3, r3e, hl, e1', hx'l]; rfl, ?_⟩
    generalize hHA : H ++ [nbox n a, .cells [.int .i64 0, .int .i64 0, .int .i64 0, .nils] .ex] = HA
    have hAl : HA.length = H.length + 2 := by rw [← hHA]; simp
    have hH2' : H2 = HA ++ [nbox ⟨N, S, T, []⟩ .nils] := by rw [hH2, ← hHA]; simp
    have hp2 : Hp HA H2 [] := by rw [hH2']; exact Hp.app _ _
    have hm2 : MB HA.length H2 (H.length + 2) ⟨N, S, T, []⟩ .nils := ⟨by omega, by rw [hH2', ← hAl]; simp, .inl ⟨rfl, rfl⟩, fun k hk => by simp [V.blk?] at hk⟩
    have hxa : ∀ H3, Hp HA H3 [] → AL H3 x' L := fun H3 hP => Rw.frame e2 fun k hk => by
      have h1 := Rw.lt h k (e4 k hk)
      rw [hP.old k (by omega), hp2.old k (by omega)]
    clear hH2 hg2 r3 r3e e1 e1' hmn
    refine wa_cut (fun s => s.τ 6 = .ptr (H.length + 1) 0 ∧ s.τ 7 = .ptr (H.length + 2) 0 ∧ ∃ x, Hp HA s.H [] ∧ MB HA.length s.H (H.length + 2) ⟨N, S, T, L.map (someA N)⟩ x) ?_ ?_
    · refine wa_for (n := L.length) (fun i (x : V) => [(6, .ptr (H.length + 1) 0), (7, .ptr (H.length + 2) 0), (49, x')]) (fun i x H' => Hp HA H' [] ∧ MB HA.length H' (H.length + 2) ⟨N, S, T, (L.take i).map (someA N)⟩ x) .nils
        (by decide) (fun i hi => w64 (by omega) (by omega)) (by simp) (by simp) (by simp [Rg, t6, t7]) ⟨hp2, by simpa using hm2⟩ (by simp) ?_ ?_
      · clear t2 t3 t6 t7 τ
        rintro i x τ H3 hi t51 t50 ⟨t6, t7, t49, -⟩ ⟨hP, hM⟩
        dsimp only [ev] at *
        obtain ⟨ka, o, cc, hae, _, _, hr⟩ := AL.at (hxa H3 hP) hi
        obtain ⟨_, _, hbc⟩ := hbnd _ (List.getElem_mem hi)
        have htk : (L.take (i + 1)).map (someA N) = (L.take i).map (someA N) ++ [someA N L[i]] := by
          rw [List.take_add_one, List.getElem?_eq_getElem hi, List.map_append]; rfl
        rw [htk]
        have hol : ((L.take i).map (someA N)).length ≤ 2 ^ 20 := by simp; omega
        generalize (L.take i).map (someA N) = out at *
        generalize L[i] = ar at *
        have hab := absc_b hbc
        unfold Arc.cells at hr
        refine wa_sr ⟨_, by simp -implicitDefEqProofs [t49, t51, hae, hi, hr]; rfl, ?_⟩
        have hP4 := Hp_app hP [.cells ar.cells .ex]
        have hM4 := hM.app [.cells ar.cells .ex]
        have k9 : ∀ G o, rd (H3 ++ [.cells ar.cells .ex] ++ G) H3.length o = ar.cells[o]? := fun G o => by simp
        have hk9 : H3.length < (H3 ++ [Blk.cells ar.cells .ex]).length := by simp
        change WP E _ ⟨_, H3 ++ [.cells ar.cells .ex]⟩ _
        generalize H3 ++ [Blk.cells ar.cells .ex] = H4 at *
        generalize H3.length = k9n at *
        have c2 := k9 [] 2
        rw [List.append_nil] at c2
        have d0 := k9 [.dead] 0
        have d1 := k9 [.dead] 1
        simp only [Arc.cells, List.getElem?_cons_zero, List.getElem?_cons_succ] at c2 d0 d1
        refine wa_sr ⟨_, by simp -implicitDefEqProofs [c2]; rfl, ?_⟩
        refine wa_sr ⟨_, by simp; rfl, ?_⟩
        refine wa_cut (fun s => s.H = H4 ∧ Rg s.τ [(6, .ptr (H.length + 1) 0), (7, .ptr (H.length + 2) 0), (49, x'), (51, .int .i64 i), (50, .int .i64 L.length), (9, .ptr k9n 0), (10, .int .i64 (absc ar.cap))]) ?_ ?_
        · unfold i64b at hbc
          by_cases hneg : ar.cap < 0
          · have w1 : IntKind.i64.wrap (ar.cap + 1) = ar.cap + 1 := w64 (by omega) (by omega)
            have w2 : IntKind.i64.wrap (-(ar.cap + 1)) = -(ar.cap + 1) := w64 (by omega) (by omega)
            refine wa_cond (t := true) (by simp [hneg]) (fun _ => ?_) (fun h => by cases h)
            refine wa_regs ⟨_, by simp -implicitDefEqProofs [w1]; rfl, rfl, ?_⟩
            simp [Rg, t6, t7, t49, t51, t50, hae, absc, hneg, w2]
          · refine wa_cond (t := false) (by simp [hneg]) (fun h => by cases h) (fun _ => wa_skip ⟨rfl, ?_⟩)
            simp [Rg, t6, t7, t49, t51, t50, hae, absc, hneg]
        clear t6 t7 t49 t51 t50 τ
        rintro ⟨τ, H4'⟩ ⟨hH4, t6, t7, t49, t51, t50, t9, t10, -⟩
        dsimp only at hH4 t6 t7 t49 t51 t50 t9 t10
        subst hH4
        have q3 := hM4.rd3 [.dead]
        have q0 := hM4.rd0 [.dead]
        have ap := fun H x => among_p (x := x) (n := N) (by omega) (by omega) H
        have htm : (absc ar.cap).tmod 1125899906842624 = absc ar.cap % 1125899906842624 := Int.tmod_eq_emod_of_nonneg hab.1
        obtain ⟨x5, H6, p1, p2, p3, p4, p5⟩ := push3 hM4.own hP4.le (someA N ar) hol
        have p1' : appendv (H4' ++ [.cells [.int .i64 (ar.src % N), .int .i64 (ar.dst % N), .int .i64 (absc ar.cap % 1125899906842624)] .ex]) 3 24 x (.sl H4'.length 0 1 1) = some (x5, H6) := p1
        have hx5s : x5.scalar = true := len_scalar (Rw.len p2.al)
        have h4l := hM4.lt
        have b6 : H6[H.length + 2]? = some (nbox ⟨N, S, T, out⟩ x) := by rw [p4 _ h4l (fun e => hM4.ne _ e rfl)]; exact hM4.box
        obtain ⟨H7, w7, c7, f7, l7⟩ : ∃ X, wr H6 (H.length + 2) 3 [x5] = some X ∧ X[H.length + 2]? = some (nbox ⟨N, S, T, out ++ [someA N ar]⟩ x5) ∧ (∀ j, j ≠ H.length + 2 → X[j]? = H6[j]?) ∧ X.length = H6.length :=
          ⟨_, wr1 (o := 3) (v := x5) (cs := [.int .i64 N, .int .i64 S, .int .i64 T, x]) b6 rfl (by simp) hx5s, List.getElem?_set_self (List.getElem?_eq_some_iff.1 b6).1, fun j hj => List.getElem?_set_ne (fun e => hj e.symm), by simp⟩
        have ne1 : (H.length + 2 == H4'.length) = false := by simp; omega
        have lt1 : k9n < H4'.length + 1 := by omega
        have lt2 : H.length + 2 < H4'.length + 1 := by omega
        dsimp only at q3 q0
        have hz : x5.cells = some [x5] := len_cells (Rw.len p2.al)
        refine wa_dreg (s' := _) (by
          simp -implicitDefEqProofs [dinsL, dins, newOf, q3, q0, d0, d1, t7, t9, t10, ap, htm, fillc, p1', hz, w7]
          rfl) (by simp [Chk.ok, V.blk?, ne1, lt1, lt2, bne]) ?_
        have hple := hP4.le
        have hf : ∀ j, j < H4'.length → j ≠ H.length + 2 → x.blk? ≠ some j → H7[j]? = H4'[j]? := fun j h1 h2 h3 => by rw [f7 j h2, p4 j h1 h3]
        refine ⟨by simp [t51], by simp [t50], x5, by simp [Rg, t6, t7, t49], ⟨by dsimp only; omega, fun j hj => ?_, fun q hq => by simp at hq, List.nodup_nil⟩, by omega, c7, p2.frame (fun j hj => f7 j (by have := p5 j hj; omega)), fun j hj => by have := p5 j hj; omega⟩
        rw [hf j (by omega) (by omega) (fun e => by have := hM4.own.ge j e; omega)]
        exact hP4.old j hj
      · rintro x τ H3 ⟨t6, t7, -⟩ ⟨hP, hM⟩
        rw [List.take_length] at hM
        exact ⟨t6, t7, x, hP, hM⟩
    · clear t2 t3 t6 t7 τ
      rintro ⟨τ, H3⟩ ⟨t6, t7, x, hP, hM⟩
      dsimp only at t6 t7 hP hM
      have hr4 := hM.rd []
      rw [List.append_nil] at hr4
      have hxs : x.scalar = true := len_scalar (Rw.len hM.own.al)
      have hk15 : H3[H.length + 1]? = some (.cells [.int .i64 0, .int .i64 0, .int .i64 0, .nils] .ex) := by rw [hP.old _ (by omega), ← hHA]; simp
      have hk15l := (List.getElem?_eq_some_iff.1 hk15).1
      obtain ⟨H6, w6, hk6, hf6, hl6⟩ : ∃ X, wr H3 (H.length + 1) 0 [.int .i64 N, .int .i64 S, .int .i64 T, x] = some X ∧ X[H.length + 1]? = some (nbox ⟨N, S, T, []⟩ x) ∧ (∀ k, k ≠ H.length + 1 → X[k]? = H3[k]?) ∧ X.length = H3.length :=
        ⟨_, wrAll (vs := [.int .i64 N, .int .i64 S, .int .i64 T, x]) hk15 rfl rfl (by simp only [List.all_cons, List.all_nil, hxs]; rfl), List.getElem?_set_self hk15l, fun k hk => List.getElem?_set_ne (fun e => hk e.symm), by simp⟩
      refine wa_sr ⟨_, by simp -implicitDefEqProofs [t6, t7, hr4, w6]; rfl, ?_⟩
      have hr6 : rdn H6 (H.length + 1) 0 4 = some [.int .i64 N, .int .i64 S, .int .i64 T, x] := by simp [rdn, hk6, nbox]
      have hp7 : Hp H H3 [] := (show Hp H HA [] by rw [← hHA]; exact Hp.app _ _).x hP
      obtain ⟨G, hG⟩ := (Hp_frame hp7 hl6 hf6 (by omega)).eq
      refine wa_ret ⟨by simp, _, by simp -implicitDefEqProofs [t6, hr6]; rfl, x, G, rfl, hG, ?_⟩
      rw [← hG]
      have : Own3 H6 HA.length x (L.map (someA N)) := hM.own.frame fun k hk => hf6 k (by have := hM.own.ge k hk; omega)
      rcases this with ⟨h2, h3⟩ | ⟨k, m, h2, h3, h4, h5⟩
      · exact .inl ⟨h2, h3⟩
      · exact .inr ⟨k, m, h2, by omega, h4, h5⟩
  obtain ⟨v, H', h1, x, G, rfl, rfl, h2⟩ := key
  exact ⟨x, G, h1, h2⟩
end Go.Proofs.Ytpojdgeginigjaa
/- Within, Res, Flow: the walks. -/
set_option linter.unusedSimpArgs false
set_option linter.unusedVariables false
namespace Go.Proofs.Ytpojdgeginigjaa
open Go Go.Ar
set_option maxRecDepth 100000

def capB (l : List Ar.Arc) : Prop := ∀ x, x ∈ l → 0 ≤ x.cap ∧ x.cap ≤ big
/-- Numbers within the capacities. -/
def withinF (l : List Ar.Arc) (i : Nat) (f : Nat → Int) : Prop := ∀ j (hj : j < l.length), j < i → 0 ≤ f j ∧ f j ≤ l[j].cap ∧ (l[j].src = l[j].dst → f j = 0)
theorem withinF_step {l : List Ar.Arc} {i : Nat} {f : Nat → Int} {v : Int} (h : withinF l i f) (hi : i < l.length) (h1 : 0 ≤ v ∧ v ≤ l[i].cap ∧ (l[i].src = l[i].dst → v = 0)) : withinF l (i + 1) (fupd f i v) := fun j hj hji => by
  unfold fupd
  by_cases e : j = i
  · subst e; rw [if_pos rfl]; exact h1
  · rw [if_neg e]; exact h j hj (by omega)

set_option maxHeartbeats 2000000 in
theorem within_ok {n : Net} {a z : V} {zs : List Int} {H : Heap} (h : AL H a n.arcs) (hz : IL .i64 H z zs) (hzb : ∀ x, x ∈ zs → i64b x) (hb : capB n.arcs) (hs : n.arcs.length ≤ 2 ^ 20) :
    ∃ f F G, withinF n.arcs n.arcs.length f ∧ callL E (.f 45) [NV n a, z] H = some (.sl (H ++ F).length 0 n.arcs.length n.arcs.length, (H ++ F) ++ (rI n.arcs.length f :: G)) := by
  have key : ∃ v H', callL E (.f 45) [NV n a, z] H = some (v, H') ∧ ∃ f F G, withinF n.arcs n.arcs.length f ∧ v = .sl (H ++ F).length 0 n.arcs.length n.arcs.length ∧ H' = (H ++ F) ++ (rI n.arcs.length f :: G) := by
    refine call_E rfl nc45 rfl ?_
    unfold gc45 NV
    have hl : lenOf a = some n.arcs.length := Rw.len h
    have hlz : lenOf z = some zs.length := Rw.len hz
    obtain ⟨N, S, T, l⟩ := n
    dsimp only at *
    have hlim : (l.length : Int) ≤ (lim : Nat) := by unfold lim; omega
    have hp2 : (l.length : Int) * 8 ≤ 1099511627776 := by omega
    refine wa_sr ⟨_, by simp [len_cells hl]; rfl, ?_⟩
    refine wa_sr ⟨_, by simp -implicitDefEqProofs [hl, hlim, hp2]; rfl, ?_⟩
    refine wa_sr ⟨_, by simp -implicitDefEqProofs [hl]; rfl, ?_⟩
    change WP E _ ⟨_, H ++ [nbox ⟨N, S, T, l⟩ a, rI l.length fun _ => 0]⟩ _
    refine wa_cut (fun s => (∃ f G, withinF l l.length f ∧ s.H = H ++ (nbox ⟨N, S, T, l⟩ a :: rI l.length f :: G)) ∧ Rg s.τ [(5, .sl (H.length + 1) 0 l.length l.length)]) ?_ ?_
    · refine wa_for (n := l.length) (fun i (_ : (Nat → Int) × Heap) => [(1, z), (5, .sl (H.length + 1) 0 l.length l.length), (14, a)]) (fun i y H' => withinF l i y.1 ∧ (∀ j, i ≤ j → y.1 j = 0) ∧ H' = H ++ (nbox ⟨N, S, T, l⟩ a :: rI l.length y.1 :: y.2)) (fun _ => 0, [])
        (by decide) (fun i hi => w64 (by omega) (by omega)) (by simp) (by simp) (by simp [Rg]) ⟨fun j _ hj => by omega, fun _ _ => rfl, rfl⟩ (by simp) ?_ ?_
      · rintro i ⟨f, G⟩ τ _ hi t16 t15 ⟨t1, t5, t14, -⟩ ⟨hW, h0, rfl⟩
        dsimp only [ev] at *
        obtain ⟨ka, o, cc, rfl, hka, hr, _⟩ := h.at hi
        obtain ⟨hc0, hc1⟩ := hb _ (List.getElem_mem hi)
        unfold big at hc1
        have hstep := fun v => withinF_step (v := v) hW hi
        have hr' := hr (nbox ⟨N, S, T, l⟩ (.sl ka o l.length cc) :: rI l.length f :: G)
        generalize hari : l[i] = ar at *
        obtain ⟨sr, ds, cp⟩ := ar
        dsimp only at hc0 hc1 hstep
        simp only [Arc.cells] at hr'
        refine wa_sr ⟨_, by simp -implicitDefEqProofs [t14, t16, hi, hr']; rfl, ?_⟩
        have hf0 : fupd f i 0 = f := funext fun j => by
          unfold fupd
          split
          · rename_i e; rw [e]; exact (h0 i (Nat.le_refl _)).symm
          · rfl
        by_cases hs1 : zs.length ≤ i
        · refine wa_sr ⟨_, by simp -implicitDefEqProofs [t1, hlz, hs1]; rfl, ?_⟩
          refine wa_if (t := true) (by simp) (fun _ => wa_ex ?_) (fun h => by cases h)
          refine ⟨by simp [t16], by simp [t15], (f, G ++ [.cells [.int .i64 sr, .int .i64 ds, .int .i64 cp] .ex]), by simp [Rg, t1, t5, t14], ?_, fun j hj => h0 j (by omega), by simp⟩
          have := hstep 0 ⟨Int.le_refl _, hc0, fun _ => rfl⟩
          rwa [hf0] at this
        by_cases hs2 : sr = ds
        · subst hs2
          refine wa_sr ⟨_, by simp -implicitDefEqProofs [t1, hlz, hs1]; rfl, ?_⟩
          refine wa_if (t := true) (by simp) (fun _ => wa_ex ?_) (fun h => by cases h)
          refine ⟨by simp [t16], by simp [t15], (f, G ++ [.cells [.int .i64 sr, .int .i64 sr, .int .i64 cp] .ex]), by simp [Rg, t1, t5, t14], ?_, fun j hj => h0 j (by omega), by simp⟩
          have := hstep 0 ⟨Int.le_refl _, hc0, fun _ => rfl⟩
          rwa [hf0] at this
        have hs2' : (sr == ds) = false := by simpa using hs2
        refine wa_sr ⟨_, by simp -implicitDefEqProofs [t1, hlz, hs1, hs2']; rfl, ?_⟩
        refine wa_if (t := false) (by simp) (fun h => by cases h) (fun _ => ?_)
        have hiz : i < zs.length := by omega
        have hxb : i64b (zs.getD i 0) := by
          rw [List.getD_eq_getElem?_getD, List.getElem?_eq_getElem hiz]
          exact hzb _ (List.getElem_mem hiz)
        obtain ⟨kz, oz, cz, rfl, hrz⟩ := hz.tb.at hiz
        generalize zs.getD i 0 = x at *
        have hab := absc_b hxb
        unfold i64b at hxb
        refine wa_sr ⟨_, by simp -implicitDefEqProofs [t1, hiz, hrz]; rfl, ?_⟩
        refine wa_sr ⟨_, by simp -implicitDefEqProofs; rfl, ?_⟩
        refine wa_cut (fun s => s.H = H ++ (nbox ⟨N, S, T, l⟩ (.sl ka o l.length cc) :: rI l.length f :: (G ++ [.cells [.int .i64 sr, .int .i64 ds, .int .i64 cp] .ex])) ∧ Rg s.τ [(1, .sl kz oz zs.length cz), (5, .sl (H.length + 1) 0 l.length l.length), (14, .sl ka o l.length cc), (16, .int .i64 i), (15, .int .i64 l.length), (6, .int .i64 i), (7, .ptr (H.length + (G.length + 2)) 0), (8, .int .i64 (absc x))]) ?_ ?_
        · by_cases hneg : x < 0
          · have w1 : IntKind.i64.wrap (x + 1) = x + 1 := w64 (by omega) (by omega)
            have w2 : IntKind.i64.wrap (-(x + 1)) = -(x + 1) := w64 (by omega) (by omega)
            refine wa_cond (t := true) (by simp [hneg]) (fun _ => ?_) (fun h => by cases h)
            refine wa_regs ⟨_, by simp -implicitDefEqProofs [w1]; rfl, by simp, ?_⟩
            simp [Rg, t1, t5, t14, t16, t15, absc, hneg, w2]
          · refine wa_cond (t := false) (by simp [hneg]) (fun h => by cases h) (fun _ => wa_skip ⟨by simp, ?_⟩)
            simp [Rg, t1, t5, t14, t16, t15, absc, hneg]
        clear t1 t5 t14 t16 t15 τ
        rintro ⟨τ, H'⟩ ⟨hH', t1, t5, t14, t16, t15, t6, t7, t8, -⟩
        dsimp only at hH' t1 t5 t14 t16 t15 t6 t7 t8
        subst hH'
        refine wa_sr ⟨_, by simp -implicitDefEqProofs [t7]; rfl, ?_⟩
        refine wa_cut (fun s => s.H = H ++ (nbox ⟨N, S, T, l⟩ (.sl ka o l.length cc) :: rI l.length f :: (G ++ [.cells [.int .i64 sr, .int .i64 ds, .int .i64 cp] .ex])) ∧ ∃ x', 0 ≤ x' ∧ Rg s.τ [(1, .sl kz oz zs.length cz), (5, .sl (H.length + 1) 0 l.length l.length), (14, .sl ka o l.length cc), (16, .int .i64 i), (15, .int .i64 l.length), (6, .int .i64 i), (7, .ptr (H.length + (G.length + 2)) 0), (8, .int .i64 x')]) ?_ ?_
        · by_cases hlt : cp < 4611686018427387904
          · have w1 : IntKind.i64.wrap (cp + 1) = cp + 1 := w64 (by omega) (by omega)
            have hn0 : ¬ (cp + 1 = 0) := by omega
            refine wa_cond (t := true) (by simp [hlt]) (fun _ => ?_) (fun h => by cases h)
            refine wa_regs ⟨_, by simp -implicitDefEqProofs [t7, t8, w1, hn0]; rfl, rfl, (absc x).tmod (cp + 1), ?_, by simp [Rg, t1, t5, t14, t16, t15, t6, t7]⟩
            rw [Int.tmod_eq_emod_of_nonneg hab.1]
            exact Int.emod_nonneg _ hn0
          · refine wa_cond (t := false) (by simp [hlt]) (fun h => by cases h) (fun _ => wa_skip ⟨rfl, absc x, hab.1, ?_⟩)
            simp [Rg, t1, t5, t14, t16, t15, t6, t7, t8]
        clear t1 t5 t14 t16 t15 t6 t7 t8 τ
        rintro ⟨τ, H'⟩ ⟨hH', x', hx', t1, t5, t14, t16, t15, t6, t7, t8, -⟩
        dsimp only at hH' t1 t5 t14 t16 t15 t6 t7 t8
        subst hH'
        have hi2 : i + 1 ≤ l.length := hi
        have e : ∀ j, (if j = i then V.int .i64 (if cp < x' then cp else x') else V.int .i64 (f j)) = V.int .i64 (fupd f i (if cp < x' then cp else x') j) := fun j => by unfold fupd; split <;> rfl
        refine wa_regs ⟨_, by simp -implicitDefEqProofs [t5, t6, t7, t8, rI, hi, hi2, e]; rfl, ?_⟩
        refine ⟨by simp [t16], by simp [t15], (fupd f i (if cp < x' then cp else x'), G ++ [.cells [.int .i64 sr, .int .i64 ds, .int .i64 cp] .ex]), by simp [Rg, t1, t5, t14], hstep _ ⟨?_, ?_, fun h => absurd h hs2⟩, fun j hj => ?_, rfl⟩
        · split <;> omega
        · split <;> omega
        · show fupd f i _ j = 0
          unfold fupd
          rw [if_neg (by omega)]; exact h0 j (by omega)
      · rintro ⟨f, G⟩ τ H' ⟨t1, t5, -⟩ ⟨hW, _, h'⟩
        exact ⟨⟨f, G, hW, h'⟩, by simp [Rg, t5]⟩
    · rintro ⟨τ, H'⟩ ⟨⟨f, G, hW, h'⟩, t5, -⟩
      dsimp only at h' t5
      subst h'
      refine wa_sr ⟨_, by simp -implicitDefEqProofs [t5]; rfl, ?_⟩
      exact wa_ret ⟨by simp, _, by simp; rfl, f, [nbox ⟨N, S, T, l⟩ a], G, hW, by simp [pack], by simp⟩
  obtain ⟨v, H', h1, f, F, G, hW, rfl, rfl⟩ := key
  exact ⟨f, F, G, hW, h1⟩
end Go.Proofs.Ytpojdgeginigjaa
/- Res, Flow: the walks. -/
set_option linter.unusedSimpArgs false
set_option linter.unusedVariables false
namespace Go.Proofs.Ytpojdgeginigjaa
open Go Go.Ar
set_option maxRecDepth 100000

def resF (c : Csr) (f : Nat → Int) (a : Nat) : Int := if c.back a = true then f (c.arc a).toNat else c.cap a - f (c.arc a).toNat
def resG (c : Csr) (f : Nat → Int) (a : Nat) : Prop := c.back a = true ∨ (0 ≤ f (c.arc a).toNat ∧ f (c.arc a).toNat ≤ c.cap a)

set_option maxHeartbeats 4000000 in
theorem res_walk {c : Csr} {x : CV} {y : V} {nf : Nat} {f : Nat → Int} {H : Heap} (h : CA H c x) (hy : TB H y nf fun j => .int .i64 (f j)) (hm : c.m ≤ 2 ^ 20) (hk : ∀ a, a < c.m → ∃ k : Nat, c.arc a = k ∧ k < nf) (hc : ∀ a, a < c.m → 0 ≤ c.cap a ∧ c.cap a ≤ big) :
    ∃ v H', callL E (.f 47) [CVal c x, y] H = some (v, H') ∧
      (((∀ a, a < c.m → resG c f a) ∧ ∃ F G, v = .tup [.sl (H ++ F).length 0 c.m c.m, .int .i64 0] ∧ H' = (H ++ F) ++ (rI c.m (resF c f) :: G)) ∨ ((∃ a, a < c.m ∧ ¬ resG c f a) ∧ ∃ G, v = .tup [.nils, .int .i64 20] ∧ H' = H ++ G)) := by
  refine call_E rfl nc47 rfl ?_
  unfold gc47
  obtain ⟨f1, g1⟩ := pc_len (c := c) (x := x) (H := H) h.f2.len
  have hcb : CVal c x = .agg [.int .i64 c.N, .int .i64 c.S, .int .i64 c.T, x.x1, x.x2, x.x3, x.x4, x.x5, x.x6] := rfl
  rw [hcb] at g1 ⊢
  have hlim : (c.m : Int) ≤ (lim : Nat) := by unfold lim; omega
  have hp2 : (c.m : Int) * 8 ≤ 1099511627776 := by omega
  refine wa_sr ⟨_, by simp; rfl, ?_⟩
  refine wa_sr ⟨_, by simp -implicitDefEqProofs [g1, hlim, hp2]; rfl, ?_⟩
  generalize f1 _ = F1
  refine wa_sr ⟨_, by simp; rfl, ?_⟩
  change WP E _ ⟨_, H ++ (cbox c x :: (F1 ++ [rI c.m fun _ => 0]))⟩ _
  have hly := hy.len
  refine wa_cut (fun s => (∀ a, a < c.m → resG c f a) ∧ s.H = H ++ (cbox c x :: (F1 ++ [rI c.m (resF c f)])) ∧ s.τ 6 = .sl (H.length + (F1.length + 1)) 0 c.m c.m) ?_ ?_
  · refine wa_for (n := c.m) (fun i (_ : Nat → Int) => [(1, y), (2, .ptr H.length 0), (6, .sl (H.length + (F1.length + 1)) 0 c.m c.m)]) (fun i g H' => (∀ a, a < i → resG c f a) ∧ (∀ a, a < i → g a = resF c f a) ∧ H' = H ++ (cbox c x :: (F1 ++ [rI c.m g]))) (fun _ => 0)
      (by decide) (fun i hi => w64 (by omega) (by omega)) (by simp) (by simp) (by simp [Rg]) ⟨fun j hj => by omega, fun j hj => by omega, rfl⟩ (by simp) ?_ ?_
    · rintro i g τ _ hi t14 t13 ⟨t1, t2, t6, -⟩ ⟨hG, hgv, rfl⟩
      dsimp only [ev] at *
      obtain ⟨k, hka, hkn⟩ := hk i hi
      obtain ⟨hc0, hc1⟩ := hc i hi
      unfold big at hc1
      obtain ⟨k5, o5, c5, e5, r5⟩ := h.f5.at hi
      obtain ⟨k6, o6, c6, e6, r6⟩ := h.f6.at hi
      obtain ⟨k4, o4, c4, e4, r4⟩ := h.f4.at hi
      obtain ⟨ky, oy, cy, ey, ry⟩ := hy.at hkn
      rw [hka] at r5
      have hgi : resG c f i ↔ (c.back i = true ∨ (0 ≤ f k ∧ f k ≤ c.cap i)) := by unfold resG; rw [hka]; rfl
      have hri : resF c f i = if c.back i = true then f k else c.cap i - f k := by unfold resF; rw [hka]; rfl
      have hnk : ¬ (nf ≤ k) := by omega
      have hi2 : i + 1 ≤ c.m := hi
      refine wa_sr ⟨_, by simp [t14]; rfl, ?_⟩
      refine wa_sr ⟨_, by simp -implicitDefEqProofs [t2, t14, cbox, e5, hi, r5]; rfl, ?_⟩
      refine wa_block ?_
      refine wa_sr ⟨_, by simp -implicitDefEqProofs [t1, hly, hnk]; rfl, ?_⟩
      refine wa_cond (t := false) (by simp) (fun h => by cases h) (fun _ => ?_)
      refine wa_sr ⟨_, by simp -implicitDefEqProofs [t2, t14, cbox, e6, hi, r6]; rfl, ?_⟩
      have last : ∀ (τ' : Nat → V) v, Rg τ' [(1, y), (2, .ptr H.length 0), (6, .sl (H.length + (F1.length + 1)) 0 c.m c.m), (14, .int .i64 i), (13, .int .i64 c.m)] → resG c f i → v = resF c f i → True := fun _ _ _ _ _ => trivial
      by_cases hb : c.back i = true
      · rw [hb]
        refine wa_cond (t := true) (by simp) (fun _ => ?_) (fun h => by cases h)
        have e : ∀ j, (if j = i then V.int .i64 (f k) else V.int .i64 (g j)) = V.int .i64 (fupd g i (f k) j) := fun j => by unfold fupd; split <;> rfl
        refine wa_regs ⟨_, by simp -implicitDefEqProofs [t1, t2, t6, t14, cbox, rI, ey, hkn, ry, hi, hi2, e]; rfl, ?_⟩
        refine ⟨by simp [t14], by simp [t13], fupd g i (f k), by simp [Rg, t1, t2, t6, ey], fun a ha => ?_, fun a ha => ?_, by simp only [cbox, rI, e5, e6]⟩
        · by_cases e1 : a = i
          · subst e1; rw [hgi]; exact .inl hb
          · exact hG a (by omega)
        · unfold fupd
          by_cases e1 : a = i
          · subst e1; rw [if_pos rfl, hri, if_pos hb]
          · rw [if_neg e1]; exact hgv a (by omega)
      · have hb' : c.back i = false := by simpa using hb
        rw [hb']
        refine wa_cond (t := false) (by simp) (fun h => by cases h) (fun _ => ?_)
        by_cases hf0 : f k < 0
        · refine wa_dr rfl rfl ⟨_, by simp -implicitDefEqProofs [t1, t2, t6, t14, cbox, ey, hkn, ry, hf0]; rfl, ?_⟩
          refine wa_cond (t := true) (by simp) (fun _ => ?_) (fun h => by cases h)
          refine wa_sr ⟨_, by simp; rfl, ?_⟩
          refine wa_ret ⟨by simp, _, by simp; rfl, .inr ⟨⟨i, hi, fun hx => ?_⟩, _, rfl, rfl⟩⟩
          rw [hgi] at hx
          rcases hx with hx | hx
          · exact hb hx
          · omega
        by_cases hf1 : c.cap i < f k
        · refine wa_dr rfl rfl ⟨_, by simp -implicitDefEqProofs [t1, t2, t6, t14, cbox, ey, hkn, ry, hf0, e4, hi, r4, hf1]; rfl, ?_⟩
          refine wa_cond (t := true) (by simp) (fun _ => ?_) (fun h => by cases h)
          refine wa_sr ⟨_, by simp; rfl, ?_⟩
          refine wa_ret ⟨by simp, _, by simp; rfl, .inr ⟨⟨i, hi, fun hx => ?_⟩, _, rfl, rfl⟩⟩
          rw [hgi] at hx
          rcases hx with hx | hx
          · exact hb hx
          · omega
        refine wa_dr rfl rfl ⟨_, by simp -implicitDefEqProofs [t1, t2, t6, t14, cbox, ey, hkn, ry, hf0, e4, hi, r4, hf1]; rfl, ?_⟩
        refine wa_cond (t := false) (by simp) (fun h => by cases h) (fun _ => ?_)
        have hw : IntKind.i64.wrap (c.cap i - f k) = c.cap i - f k := w64 (by omega) (by omega)
        have e : ∀ j, (if j = i then V.int .i64 (c.cap i - f k) else V.int .i64 (g j)) = V.int .i64 (fupd g i (c.cap i - f k) j) := fun j => by unfold fupd; split <;> rfl
        refine wa_drl rfl rfl ⟨_, by simp -implicitDefEqProofs [t1, t2, t6, t14, cbox, rI, ey, hkn, ry, e4, r4, hi, hi2, hw, e]; rfl, ?_⟩
        refine ⟨by simp [t14], by simp [t13], fupd g i (c.cap i - f k), by simp [Rg, t1, t2, t6, ey], fun a ha => ?_, fun a ha => ?_, by simp only [cbox, rI, e4, e5, e6]⟩
        · by_cases e1 : a = i
          · subst e1; rw [hgi]; exact .inr ⟨by omega, by omega⟩
          · exact hG a (by omega)
        · unfold fupd
          by_cases e1 : a = i
          · subst e1; rw [if_pos rfl, hri, if_neg hb]
          · rw [if_neg e1]; exact hgv a (by omega)
    · rintro g τ H' ⟨t1, t2, t6, -⟩ ⟨hG, hgv, rfl⟩
      refine ⟨hG, ?_, t6⟩
      have : rI c.m g = rI c.m (resF c f) := by
        unfold rI
        rw [tb_congr fun j hj => by rw [hgv j hj]]
      rw [this]
  · rintro ⟨τ, H'⟩ ⟨hG, h', t6⟩
    dsimp only at h' t6
    subst h'
    refine wa_sr ⟨_, by simp -implicitDefEqProofs [t6]; rfl, ?_⟩
    refine wa_ret ⟨by simp, _, by simp; rfl, .inl ⟨hG, cbox c x :: F1, [], by simp [pack], by simp⟩⟩
theorem res_ok {c : Csr} {x : CV} {y : V} {nf : Nat} {f : Nat → Int} {H : Heap} (h : CA H c x) (hy : TB H y nf fun j => .int .i64 (f j)) (hm : c.m ≤ 2 ^ 20) (hk : ∀ a, a < c.m → ∃ k : Nat, c.arc a = k ∧ k < nf) (hc : ∀ a, a < c.m → 0 ≤ c.cap a ∧ c.cap a ≤ big)
    (hg : ∀ a, a < c.m → resG c f a) : ∃ F G, callL E (.f 47) [CVal c x, y] H = some (.tup [.sl (H ++ F).length 0 c.m c.m, .int .i64 0], (H ++ F) ++ (rI c.m (resF c f) :: G)) := by
  obtain ⟨v, H', h1, ⟨_, F, G, rfl, rfl⟩ | ⟨⟨a, ha, h2⟩, _⟩⟩ := res_walk h hy hm hk hc
  · exact ⟨F, G, h1⟩
  · exact absurd (hg a ha) h2
theorem res_bad {c : Csr} {x : CV} {y : V} {nf : Nat} {f : Nat → Int} {H : Heap} (h : CA H c x) (hy : TB H y nf fun j => .int .i64 (f j)) (hm : c.m ≤ 2 ^ 20) (hk : ∀ a, a < c.m → ∃ k : Nat, c.arc a = k ∧ k < nf) (hc : ∀ a, a < c.m → 0 ≤ c.cap a ∧ c.cap a ≤ big)
    {a : Nat} (ha : a < c.m) (hg : ¬ resG c f a) : ∃ G, callL E (.f 47) [CVal c x, y] H = some (.tup [.nils, .int .i64 20], H ++ G) := by
  obtain ⟨v, H', h1, ⟨h2, _⟩ | ⟨_, G, rfl, rfl⟩⟩ := res_walk h hy hm hk hc
  · exact absurd (h2 a ha) hg
  · exact ⟨G, h1⟩
end Go.Proofs.Ytpojdgeginigjaa
/- Flow: the walk. -/
set_option linter.unusedSimpArgs false
set_option linter.unusedVariables false
namespace Go.Proofs.Ytpojdgeginigjaa
open Go Go.Ar
set_option maxRecDepth 100000

theorem cl92 {k : Nat} {H : Heap} {na v : Int} (h : rd H k 0 = some (.int .i64 na)) : callL E (.f 92) [.int .i64 v, .ptr k 0] H = some (.bool (decide (na ≤ v)), H) := by
  have key : ∃ w H', callL E (.f 92) [.int .i64 v, .ptr k 0] H = some (w, H') ∧ w = .bool (decide (na ≤ v)) ∧ H' = H := by
    refine call_E rfl nc92 rfl ?_
    unfold gc92
    refine wa_sr ⟨_, by simp; rfl, ?_⟩
    refine wa_sr ⟨_, by simp [h]; rfl, ?_⟩
    exact wa_ret ⟨by simp, _, by simp; rfl, by simp, rfl⟩
  obtain ⟨w, H', h, rfl, rfl⟩ := key
  exact h
/-- No number is so great: ContainsFunc answers no. -/
theorem noneI_ok {a : V} {n k : Nat} {g : Nat → Int} {na : Int} {H : Heap} (h : TB H a n fun j => .int .i64 (g j)) (hs : n ≤ 2 ^ 40) (hk : rd H k 0 = some (.int .i64 na)) (hg : ∀ j, j < n → g j < na) :
    callL E (.f 93) [a, .fn 92 [] [.ptr k 0]] H = some (.bool false, H) := by
  have k1 : ∃ w H', callL E (.f 125) [a, .fn 92 [] [.ptr k 0]] H = some (w, H') ∧ w = .int .i64 (-1) ∧ H' = H := by
    refine call_E rfl nc125 rfl ?_
    unfold gc125
    refine wa_sr ⟨_, by simp; rfl, ?_⟩
    refine wa_sr ⟨_, by simp [h.len]; rfl, ?_⟩
    refine wa_cut (fun s => s.H = H) ?_ ?_
    · refine wa_for (n := n) (fun i (_ : Unit) => [(0, a), (1, .fn 92 [] [.ptr k 0])]) (fun i _ H' => H' = H) () (by decide) (fun i hi => w64 (by omega) (by omega)) (by simp) (by simp) (by simp [Rg]) rfl (by simp) ?_ ?_
      · rintro i _ τ _ hi t8 t7 ⟨t0, t1, -⟩ rfl
        dsimp only [ev] at *
        obtain ⟨ka, oa, ca, ea, ra⟩ := h.at0 hi
        have hc := cl92 (v := g i) hk
        have hlt := hg i hi
        have hng : ¬ na ≤ g i := by omega
        refine wa_sr ⟨_, by simp [t8]; rfl, ?_⟩
        refine wa_sr ⟨_, by simp -implicitDefEqProofs [t8, t0, t1, ea, hi, ra, hc, hng]; rfl, ?_⟩
        refine wa_cond (t := false) (by simp) (fun h => by cases h) (fun _ => wa_skip ?_)
        exact ⟨by simp [t8], by simp [t7], (), by simp [Rg, t0, t1, ea], rfl⟩
      · rintro _ τ _ _ rfl; rfl
    · rintro ⟨τ, H'⟩ h'
      dsimp only at h'
      subst h'
      refine wa_sr ⟨_, by simp; rfl, ?_⟩
      exact wa_ret ⟨by simp, _, by simp; rfl, rfl, rfl⟩
  obtain ⟨w, H', hi, rfl, rfl⟩ := k1
  have key : ∃ w H'', callL E (.f 93) [a, .fn 92 [] [.ptr k 0]] H' = some (w, H'') ∧ w = .bool false ∧ H'' = H' := by
    refine call_E rfl nc93 rfl ?_
    unfold gc93
    refine wa_sr ⟨_, by simp; rfl, ?_⟩
    refine wa_sr ⟨_, by simp -implicitDefEqProofs [hi]; rfl, ?_⟩
    exact wa_ret ⟨by simp, _, by simp; rfl, rfl, rfl⟩
  obtain ⟨w, H'', h1, rfl, rfl⟩ := key
  exact h1

def mostF (c : Csr) (a : Nat) : Int := if c.cap (c.rev a).toNat > c.cap a then c.cap (c.rev a).toNat else c.cap a
def flowG (c : Csr) (r : Nat → Int) (a : Nat) : Prop := 0 ≤ r a ∧ r a ≤ mostF c a ∧ r (c.rev a).toNat = mostF c a - r a
/-- What is laid of the first residual arcs. -/
def FlowI (c : Csr) (r : Nat → Int) (i : Nat) (g : Nat → Int) : Prop := (∀ a, a < i → c.back a = true → g (c.arc a).toNat = r a) ∧ ∀ k, (∀ a, a < i → c.back a = true → (c.arc a).toNat ≠ k) → g k = 0

set_option maxHeartbeats 8000000 in
theorem flow_walk {c : Csr} {x : CV} {y : V} {na : Nat} {r : Nat → Int} {H : Heap} (h : CA H c x) (hy : TB H y c.m fun j => .int .i64 (r j)) (hm : c.m ≤ 2 ^ 20) (hna : na ≤ 16384) (hk : ∀ a, a < c.m → ∃ k : Nat, c.arc a = k ∧ k < na)
    (hr : ∀ a, a < c.m → ∃ b : Nat, c.rev a = b ∧ b < c.m) (hc : ∀ a, a < c.m → 0 ≤ c.cap a ∧ c.cap a ≤ big) (hinj : ∀ a b, a < c.m → b < c.m → c.back a = true → c.back b = true → c.arc a = c.arc b → a = b) :
    ∃ v H', callL E (.f 51) [CVal c x, y, .int .i64 na] H = some (v, H') ∧
      (((∀ a, a < c.m → flowG c r a) ∧ ∃ g F G, FlowI c r c.m g ∧ v = .tup [.sl (H ++ F).length 0 na na, .int .i64 0] ∧ H' = (H ++ F) ++ (rI na g :: G)) ∨ ((∃ a, a < c.m ∧ ¬ flowG c r a) ∧ ∃ G, v = .tup [.nils, .int .i64 20] ∧ H' = H ++ G)) := by
  refine call_E rfl nc51 rfl ?_
  unfold gc51
  obtain ⟨f1, g1⟩ := pc_len (c := c) (x := x) (H := H) h.f2.len
  have hcb : CVal c x = .agg [.int .i64 c.N, .int .i64 c.S, .int .i64 c.T, x.x1, x.x2, x.x3, x.x4, x.x5, x.x6] := rfl
  rw [hcb] at g1 ⊢
  have hly := hy.len
  have hlim : (na : Int) ≤ (lim : Nat) := by unfold lim; omega
  have hp2 : (na : Int) * 8 ≤ 1099511627776 := by omega
  have hn0 : ¬ ((na : Int) < 0) := by omega
  have hn1 : ¬ ((16384 : Int) < na) := by omega
  refine wa_sr ⟨_, by simp; rfl, ?_⟩
  refine wa_sr ⟨_, by simp; rfl, ?_⟩
  have hA5 : ∀ G, TB (H ++ G) x.x5 c.m fun j => .int .i64 (c.arc j) := fun G => h.f5.app G
  have hno := fun (F1 : Heap) => noneI_ok (na := na) (k := H.length + 1) (hA5 (cbox c x :: .cells [.int .i64 na] .ex :: F1)) (by omega) (by simp) (fun j hj => by obtain ⟨k, h1, h2⟩ := hk j hj; rw [h1]; omega)
  unfold cbox at hno
  refine wa_sr ⟨_, by simp -implicitDefEqProofs [g1, hly, hn0, hn1, hno]; rfl, ?_⟩
  generalize f1 _ = F1
  refine wa_if (t := false) (by simp) (fun h => by cases h) (fun _ => ?_)
  refine wa_sr ⟨_, by simp -implicitDefEqProofs [hlim, hp2]; rfl, ?_⟩
  refine wa_sr ⟨_, by simp -implicitDefEqProofs [hly]; rfl, ?_⟩
  change WP E _ ⟨_, H ++ (cbox c x :: .cells [.int .i64 na] .ex :: (F1 ++ [rI na fun _ => 0]))⟩ _
  refine wa_cut (fun s => (∀ a, a < c.m → flowG c r a) ∧ (∃ g, FlowI c r c.m g ∧ s.H = H ++ (cbox c x :: .cells [.int .i64 na] .ex :: (F1 ++ [rI na g]))) ∧ s.τ 9 = .sl (H.length + (F1.length + 2)) 0 na na) ?_ ?_
  · refine wa_for (n := c.m) (fun i (_ : Nat → Int) => [(1, y), (3, .ptr H.length 0), (9, .sl (H.length + (F1.length + 2)) 0 na na), (35, y)]) (fun i g H' => (∀ a, a < i → flowG c r a) ∧ FlowI c r i g ∧ H' = H ++ (cbox c x :: .cells [.int .i64 na] .ex :: (F1 ++ [rI na g]))) (fun _ => 0)
      (by decide) (fun i hi => w64 (by omega) (by omega)) (by simp) (by simp) (by simp [Rg]) ⟨fun j hj => by omega, ⟨fun a ha => by omega, fun _ _ => rfl⟩, rfl⟩ (by simp) ?_ ?_
    · rintro i g τ _ hi t37 t36 ⟨t1, t3, t9, t35, -⟩ ⟨hG, hgv, rfl⟩
      dsimp only [ev] at *
      obtain ⟨k, hka, hkn⟩ := hk i hi
      obtain ⟨b, hrb, hbm⟩ := hr i hi
      obtain ⟨hc0, hc1⟩ := hc i hi
      obtain ⟨hd0, hd1⟩ := hc b hbm
      unfold big at hc1 hd1
      obtain ⟨k3, o3, c3, e3, r3⟩ := h.f3.at hi
      obtain ⟨k5, o5, c5, e5, r5⟩ := h.f5.at hi
      obtain ⟨k6, o6, c6, e6, r6⟩ := h.f6.at hi
      obtain ⟨k4, o4, c4, e4, r4⟩ := h.f4.at hi
      obtain ⟨k4', o4', c4', e4', s4⟩ := h.f4.at hbm
      rw [e4] at e4'
      cases e4'
      obtain ⟨ky, oy, cy, ey, ry⟩ := hy.at hi
      obtain ⟨ky', oy', cy', ey', sy⟩ := hy.at hbm
      rw [ey] at ey'
      cases ey'
      rw [hka] at r5
      rw [hrb] at r3
      have hmo : mostF c i = if c.cap b > c.cap i then c.cap b else c.cap i := by unfold mostF; rw [hrb]; rfl
      have hgi : flowG c r i ↔ (0 ≤ r i ∧ r i ≤ mostF c i ∧ r b = mostF c i - r i) := by unfold flowG; rw [hrb]; rfl
      have hm0 : 0 ≤ mostF c i ∧ mostF c i ≤ 4611686018427387904 := by rw [hmo]; split <;> omega
      have hi2 : i + 1 ≤ c.m := hi
      have hkn2 : k + 1 ≤ na := hkn
      refine wa_sr ⟨_, by simp -implicitDefEqProofs [t37, t35, ey, hi, ry]; rfl, ?_⟩
      refine wa_seq (wa_dreg (s' := _) (by
        rw [dinsL_plain rfl]
        simp -implicitDefEqProofs [t3, t37, cbox, e3, e4, hi, hbm, r3, r4, s4]
        rfl) (by simp) ?_)
      have hmo2 : (if c.cap i < c.cap b then c.cap b else c.cap i) = mostF c i := by rw [hmo]
      rw [hmo2]
      refine wa_rg [(1, y), (3, .ptr H.length 0), (9, .sl (H.length + (F1.length + 2)) 0 na na), (35, y), (37, .int .i64 i), (36, .int .i64 c.m), (10, .int .i64 i), (11, .int .i64 (r i)), (12, .int .i64 (mostF c i))] (by simp [Rg, t1, t3, t9, t35, t37, t36, ey]) ?_
      clear t1 t3 t9 t35 t37 t36 τ
      rintro τ ⟨t1, t3, t9, t35, t37, t36, t10, t11, t12, -⟩
      dsimp only at t1 t3 t9 t35 t37 t36 t10 t11 t12
      refine wa_block ?_
      by_cases hx0 : r i < 0
      · refine wa_sr ⟨_, by simp -implicitDefEqProofs [t11, hx0]; rfl, ?_⟩
        refine wa_cond (t := true) (by simp) (fun _ => ?_) (fun h => by cases h)
        refine wa_sr ⟨_, by simp; rfl, ?_⟩
        exact wa_ret ⟨by simp, _, by simp; rfl, .inr ⟨⟨i, hi, fun hx => by rw [hgi] at hx; omega⟩, _, rfl, rfl⟩⟩
      by_cases hx1 : mostF c i < r i
      · refine wa_sr ⟨_, by simp -implicitDefEqProofs [t11, t12, hx0, hx1]; rfl, ?_⟩
        refine wa_cond (t := true) (by simp) (fun _ => ?_) (fun h => by cases h)
        refine wa_sr ⟨_, by simp; rfl, ?_⟩
        exact wa_ret ⟨by simp, _, by simp; rfl, .inr ⟨⟨i, hi, fun hx => by rw [hgi] at hx; omega⟩, _, rfl, rfl⟩⟩
      have hw : IntKind.i64.wrap (mostF c i - r i) = mostF c i - r i := w64 (by omega) (by omega)
      by_cases hx2 : r b = mostF c i - r i
      case neg =>
        have hx2' : (r b == mostF c i - r i) = false := by simpa using hx2
        refine wa_sr ⟨_, by simp -implicitDefEqProofs [t1, t3, t10, t11, t12, hx0, hx1, cbox, e3, hi, r3, ey, hbm, sy, hw, hx2', bne]; rfl, ?_⟩
        refine wa_cond (t := true) (by simp) (fun _ => ?_) (fun h => by cases h)
        refine wa_sr ⟨_, by simp; rfl, ?_⟩
        exact wa_ret ⟨by simp, _, by simp; rfl, .inr ⟨⟨i, hi, fun hx => by rw [hgi] at hx; exact hx2 hx.2.2⟩, _, rfl, rfl⟩⟩
      refine wa_sr ⟨_, by simp -implicitDefEqProofs [t1, t3, t10, t11, t12, hx0, hx1, cbox, e3, hi, r3, ey, hbm, sy, hw, hx2]; rfl, ?_⟩
      refine wa_cond (t := false) (by simp) (fun h => by cases h) (fun _ => ?_)
      refine wa_sr ⟨_, by simp -implicitDefEqProofs [t3, t10, cbox, e6, hi, r6]; rfl, ?_⟩
      have hGn : ∀ a, a < i + 1 → flowG c r a := fun a ha => by
        by_cases e1 : a = i
        · subst e1; rw [hgi]; exact ⟨by omega, by omega, hx2⟩
        · exact hG a (by omega)
      by_cases hb : c.back i = true
      · refine wa_cond (t := true) (by simp [hb]) (fun _ => ?_) (fun h => by cases h)
        have e : ∀ j, (if j = k then V.int .i64 (r i) else V.int .i64 (g j)) = V.int .i64 (fupd g k (r i) j) := fun j => by unfold fupd; split <;> rfl
        refine wa_regs ⟨_, by simp -implicitDefEqProofs [t3, t9, t10, t11, cbox, rI, e5, hi, r5, hkn, hkn2, e]; rfl, ?_⟩
        refine ⟨by simp [t37], by simp [t36], fupd g k (r i), by simp [Rg, t1, t3, t9, t35, ey], hGn, ⟨fun a ha hba => ?_, fun k' hk' => ?_⟩, by simp only [cbox, rI, e3, e4, e5, e6]⟩
        · unfold fupd
          by_cases e1 : a = i
          · subst e1; rw [hka]; simp
          · rw [if_neg fun h5 => e1 (hinj a i (by omega) hi hba hb (by obtain ⟨k', q1, _⟩ := hk a (by omega); rw [q1] at h5 ⊢; rw [hka]; simp at h5; rw [h5]))]
            exact hgv.1 a (by omega) hba
        · unfold fupd
          have := hk' i (by omega) hb
          rw [hka] at this
          simp at this
          rw [if_neg (fun e => this e.symm)]
          exact hgv.2 k' fun a ha hba => hk' a (by omega) hba
      · refine wa_cond (t := false) (by simpa using hb) (fun h => by cases h) (fun _ => wa_skip ?_)
        refine ⟨by simp [t37], by simp [t36], g, by simp [Rg, t1, t3, t9, t35, ey], hGn, ⟨fun a ha hba => ?_, fun k' hk' => ?_⟩, by simp only [cbox, rI, e3, e4, e5, e6]⟩
        · by_cases e1 : a = i
          · subst e1; exact absurd hba hb
          · exact hgv.1 a (by omega) hba
        · exact hgv.2 k' fun a ha hba => hk' a (by omega) hba
    · rintro g τ H' ⟨t1, t3, t9, -⟩ ⟨hG, hgv, rfl⟩
      exact ⟨hG, ⟨g, hgv, rfl⟩, t9⟩
  · rintro ⟨τ, H'⟩ ⟨hG, ⟨g, hgv, h'⟩, t9⟩
    dsimp only at h' t9
    subst h'
    refine wa_sr ⟨_, by simp -implicitDefEqProofs [t9]; rfl, ?_⟩
    refine wa_ret ⟨by simp, _, by simp; rfl, .inl ⟨hG, g, cbox c x :: .cells [.int .i64 na] .ex :: F1, [], hgv, by simp [pack], by simp⟩⟩
end Go.Proofs.Ytpojdgeginigjaa
/- Residual arcs: what is known of each; nets made right are right. -/
set_option linter.unusedSimpArgs false
set_option linter.unusedVariables false
namespace Go.Proofs.Ytpojdgeginigjaa
open Go Go.Ar
set_option maxRecDepth 100000

/-- Of each residual arc a, at place of arc k at u, leading to v; b is the other one. -/
structure At (n : Net) (c : Csr) (a k u v b : Nat) : Prop where
  hk : k < n.arcs.length
  hu : u < c.vs
  hv : v < c.vs
  ne : u ≠ v
  iu : inc u n.arcs[k] = true
  iv : inc v n.arcs[k] = true
  ea : a = pos n.arcs k u
  eb : b = pos n.arcs k v
  hb : b < c.m
  head : c.head a = v
  rev : c.rev a = b
  arc : c.arc a = k
  head' : c.head b = u
  rev' : c.rev b = a
  arc' : c.arc b = k
  two : (c.back a = false ∧ c.back b = true ∧ n.arcs[k].src = u ∧ n.arcs[k].dst = v ∧ c.cap a = n.arcs[k].cap ∧ c.cap b = 0) ∨ (c.back a = true ∧ c.back b = false ∧ n.arcs[k].src = v ∧ n.arcs[k].dst = u ∧ c.cap a = 0 ∧ c.cap b = n.arcs[k].cap)
theorem csr_at {n : Net} {c : Csr} (h : IsCsr n c) {a : Nat} (ha : a < c.m) : ∃ k u v b, At n c a k u v b := by
  rw [h.m] at ha
  obtain ⟨k, w, hk, hw, hi, rfl⟩ := pos_find n.arcs ha
  obtain ⟨s, d, e1, e2, hs, hd⟩ := h.inn _ (List.getElem_mem hk)
  have hne : s ≠ d := by rw [inc_iff] at hi; omega
  obtain ⟨i1, i2⟩ := inc_l e1 e2 hne
  obtain ⟨⟨f1, f2, f3, f4, f5⟩, g1, g2, g3, g4, g5⟩ := h.fil k hk hk s d e1 e2 hne
  have l1 : pos n.arcs k s < c.m := by rw [h.m]; have := pos_lt hk i1; have := fst_mono n.arcs (show s + 1 ≤ c.vs from hs); omega
  have l2 : pos n.arcs k d < c.m := by rw [h.m]; have := pos_lt hk i2; have := fst_mono n.arcs (show d + 1 ≤ c.vs from hd); omega
  have hwsd : w = s ∨ w = d := by rw [inc_iff] at hi; omega
  rcases hwsd with rfl | rfl
  · exact ⟨k, w, d, _, hk, hs, hd, hne, i1, i2, rfl, rfl, l2, f1, f2, f4, g1, g2, g4, .inl ⟨f5, g5, e1, e2, f3, g3⟩⟩
  · exact ⟨k, w, s, _, hk, hd, hs, fun e => hne e.symm, i2, i1, rfl, rfl, l1, g1, g2, g4, f1, f2, f4, .inr ⟨g5, f5, e1, e2, g3, f3⟩⟩
theorem csr_m {n : Net} {c : Csr} (h : IsCsr n c) : c.m ≤ 2 * n.arcs.length := by rw [h.m]; exact fst_le2 _ _
theorem csr_k {n : Net} {c : Csr} (h : IsCsr n c) : ∀ a, a < c.m → ∃ k : Nat, c.arc a = k ∧ k < n.arcs.length := fun a ha => by
  obtain ⟨k, u, v, b, h1⟩ := csr_at h ha
  exact ⟨k, h1.arc, h1.hk⟩
theorem csr_r {n : Net} {c : Csr} (h : IsCsr n c) : ∀ a, a < c.m → ∃ b : Nat, c.rev a = b ∧ b < c.m := fun a ha => by
  obtain ⟨k, u, v, b, h1⟩ := csr_at h ha
  exact ⟨b, h1.rev, h1.hb⟩
theorem csr_c {n : Net} {c : Csr} (h : IsCsr n c) (hb : capB n.arcs) : ∀ a, a < c.m → 0 ≤ c.cap a ∧ c.cap a ≤ big := fun a ha => by
  obtain ⟨k, u, v, b, h1⟩ := csr_at h ha
  have := hb _ (List.getElem_mem h1.hk)
  rcases h1.two with ⟨_, _, _, _, e, _⟩ | ⟨_, _, _, _, e, _⟩ <;> rw [e]
  · exact this
  · exact ⟨Int.le_refl _, by decide⟩
theorem csr_inj {n : Net} {c : Csr} (h : IsCsr n c) : ∀ a b, a < c.m → b < c.m → c.back a = true → c.back b = true → c.arc a = c.arc b → a = b := fun a b ha hb h1 h2 h3 => by
  obtain ⟨k, u, v, b', p⟩ := csr_at h ha
  obtain ⟨k', u', v', b'', q⟩ := csr_at h hb
  have e : k = k' := by have := p.arc; have := q.arc; omega
  subst e
  rcases p.two with ⟨e, _⟩ | ⟨_, _, _, e1, _⟩
  · rw [e] at h1; cases h1
  rcases q.two with ⟨e, _⟩ | ⟨_, _, _, e2, _⟩
  · rw [e] at h2; cases h2
  rw [p.ea, q.ea]
  have : u = u' := by omega
  rw [this]
/-- What a flow within leaves: it is right. -/
theorem csr_g {n : Net} {c : Csr} (h : IsCsr n c) {f : Nat → Int} (hf : withinF n.arcs n.arcs.length f) : ∀ a, a < c.m → resG c f a := fun a ha => by
  obtain ⟨k, u, v, b, h1⟩ := csr_at h ha
  obtain ⟨f1, f2, _⟩ := hf k h1.hk h1.hk
  unfold resG
  rw [h1.arc]
  rcases h1.two with ⟨_, _, _, _, e, _⟩ | ⟨e, _⟩
  · right
    rw [e]; simp [f1, f2]
  · exact .inl e
theorem resF_at {n : Net} {c : Csr} {f : Nat → Int} {a k u v b : Nat} (h : At n c a k u v b) : resF c f a = if c.back a = true then f k else c.cap a - f k := by
  unfold resF; rw [h.arc]; simp

/-! ### Nets made right -/
theorem capS_le_of {M : Int} : ∀ (l : List Ar.Arc), (∀ x, x ∈ l → x.cap ≤ M) → capS l ≤ M * l.length
  | [], _ => by simp [capS]
  | x :: l, h => by
    have h1 := h x (by simp)
    have h2 := capS_le_of l fun y hy => h y (by simp [hy])
    simp only [capS, List.length_cons]
    have : M * ((l.length + 1 : Nat) : Int) = M * l.length + M := by rw [Int.natCast_add, Int.mul_add]; simp
    omega
theorem some_facts {n : Net} {vs : Int} {m : Nat} (hvs : 2 ≤ vs) (hvs2 : vs ≤ 4096) (hm : m ≤ 1000) (hb : ∀ x, x ∈ n.arcs → i64b x.cap) :
    chk (someN n vs m) = 0 ∧ (someN n vs m).arcs.length ≤ m ∧ 2 ≤ (someN n vs m).N ∧ (someN n vs m).N ≤ vs ∧ ∀ x, x ∈ (someN n vs m).arcs → 0 ≤ x.cap ∧ x.cap < 1125899906842624 := by
  have hN0 : 0 ≤ n.N % (vs - 1) ∧ n.N % (vs - 1) < vs - 1 := ⟨Int.emod_nonneg _ (by omega), Int.emod_lt_of_pos _ (by omega)⟩
  have hlen : (someN n vs m).arcs.length ≤ m := by simp [someN]; omega
  have hN : (someN n vs m).N = 2 + n.N % (vs - 1) := rfl
  have hcap : ∀ x, x ∈ (someN n vs m).arcs → 0 ≤ x.cap ∧ x.cap < 1125899906842624 := fun x hx => by
    obtain ⟨y, hy, rfl⟩ := List.mem_map.1 hx
    exact ⟨Int.emod_nonneg _ (by omega), Int.emod_lt_of_pos _ (by omega)⟩
  refine ⟨?_, hlen, by omega, by omega, hcap⟩
  have hNp : 0 < (someN n vs m).N := by omega
  have hS : 0 ≤ (someN n vs m).S ∧ (someN n vs m).S < (someN n vs m).N := ⟨Int.emod_nonneg _ (by omega), Int.emod_lt_of_pos _ hNp⟩
  have hT : 0 ≤ (someN n vs m).T ∧ (someN n vs m).T < (someN n vs m).N ∧ (someN n vs m).S ≠ (someN n vs m).T := by
    show 0 ≤ (if (someN n vs m).S = n.T % (someN n vs m).N then ((someN n vs m).S + 1) % (someN n vs m).N else n.T % (someN n vs m).N) ∧ (if (someN n vs m).S = n.T % (someN n vs m).N then ((someN n vs m).S + 1) % (someN n vs m).N else n.T % (someN n vs m).N) < (someN n vs m).N ∧ (someN n vs m).S ≠ (if (someN n vs m).S = n.T % (someN n vs m).N then ((someN n vs m).S + 1) % (someN n vs m).N else n.T % (someN n vs m).N)
    generalize (someN n vs m).S = S at *
    generalize (someN n vs m).N = N at *
    by_cases h : S = n.T % N
    · rw [if_pos h]
      refine ⟨Int.emod_nonneg _ (by omega), Int.emod_lt_of_pos _ hNp, fun e => ?_⟩
      by_cases h2 : S + 1 < N
      · rw [Int.emod_eq_of_lt (by omega) h2] at e; omega
      · have : S + 1 = N := by omega
        rw [this, Int.emod_self] at e; omega
    · rw [if_neg h]
      exact ⟨Int.emod_nonneg _ (by omega), Int.emod_lt_of_pos _ hNp, h⟩
  refine chk_of (okN_iff.2 (by omega)) (okM_iff.2 (by omega)) (okE_iff.2 ⟨hS, ⟨hT.1, hT.2.1⟩, hT.2.2⟩) (fun x hx => ?_) (fun x hx => (hcap x hx).1) ((sumOk_iff _).2 ⟨fun x hx => (hcap x hx).1, ?_⟩)
  · obtain ⟨y, hy, rfl⟩ := List.mem_map.1 hx
    rw [vtx_iff, vtx_iff]
    exact ⟨⟨Int.emod_nonneg _ (by omega), Int.emod_lt_of_pos _ hNp⟩, Int.emod_nonneg _ (by omega), Int.emod_lt_of_pos _ hNp⟩
  · have := capS_le_of (M := 1125899906842624) (someN n vs m).arcs fun x hx => by have := hcap x hx; omega
    unfold big
    omega
theorem NetIn.app {H : Heap} {n : Net} {a : V} (h : NetIn H n a) (G : Heap) : NetIn (H ++ G) n a := ⟨h.al.app G, h.sg.app G, h.sl, h.len, h.bN, h.bS, h.bT, h.arc⟩
/-- How each of these laws begins: its net is made right. -/
theorem some_pre {n : Net} {a : V} {H : Heap} (hin : NetIn H n a) {vs ms : Int} {m : Nat} (hms : ms = m) (hvs : 2 ≤ vs) (hvs2 : vs ≤ 4096) (hm : m ≤ 1000) :
    ∃ x H1 HA, callL E (.f 31) [NV n a, .int .i64 vs, .int .i64 ms] (H ++ [nbox n a]) = some (NV (someN n vs m) x, H1) ∧ wr H1 H.length 0 [.int .i64 (someN n vs m).N, .int .i64 (someN n vs m).S, .int .i64 (someN n vs m).T, x] = some HA ∧
      HA[H.length]? = some (nbox (someN n vs m) x) ∧ AL HA x (someN n vs m).arcs ∧ Sl x ∧ Hp H HA [] ∧ x.scalar = true := by
  obtain ⟨x, G, h1, h2⟩ := some_ok (hin.app [nbox n a]) hms hvs hvs2 hm
  have hxs : x.scalar = true := len_scalar (Rw.len h2.al)
  have hk : (H ++ [nbox n a] ++ G)[H.length]? = some (nbox n a) := by simp
  refine ⟨x, _, _, h1, wrAll (vs := [.int .i64 (someN n vs m).N, .int .i64 (someN n vs m).S, .int .i64 (someN n vs m).T, x]) hk rfl rfl (by simp only [List.all_cons, List.all_nil, hxs]; rfl), List.getElem?_set_self (lt_of_get hk), ?_, h2.sl, ?_, hxs⟩
  · exact h2.al.frame fun k hk => List.getElem?_set_ne (fun e => by have := h2.ge k hk; simp at this; omega)
  · exact Hp_set ((Hp.app H [nbox n a]).x (Hp.app _ G)) (Nat.le_refl _) _
theorem capB_some {n : Net} {vs : Int} {m : Nat} (h : ∀ x, x ∈ (someN n vs m).arcs → 0 ≤ x.cap ∧ x.cap < 1125899906842624) : capB (someN n vs m).arcs := fun x hx => by
  have := h x hx
  unfold big; omega
end Go.Proofs.Ytpojdgeginigjaa
