/- NetFirst: the plain law; nets that lie in memory. -/
import Derived.Test.YtpojdgeginigjaaNd
set_option linter.unusedSimpArgs false
set_option linter.unusedVariables false
namespace Go.Proofs.Ytpojdgeginigjaa
open Go Go.Ar
set_option maxRecDepth 100000

theorem chk_spec (m : Net) : chk m = 0 ∨ (10 ≤ chk m ∧ chk m ≤ 15 ∧ (∀ p, p ∈ rulesOf m → p.2 < chk m → p.1 = true) ∧ ∃ p, p ∈ rulesOf m ∧ p.2 = chk m ∧ p.1 = false) := by
  rw [chk_L]
  unfold rulesOf
  generalize okN m = b1
  generalize okM m = b2
  generalize okE m = b3
  generalize (m.arcs.all fun x => vtx m x.src && vtx m x.dst) = b4
  generalize (m.arcs.all fun x => decide (0 ≤ x.cap)) = b5
  generalize sumOk m.arcs = b6
  cases b1 <;> cases b2 <;> cases b3 <;> cases b4 <;> cases b5 <;> cases b6 <;> decide

def fixN (m : Net) : Net := { m with N := 2 + m.N % 4000 }
def fixE (m : Net) : Net := { m with S := 0, T := 1 }
def fixA (m : Net) : Net := { m with arcs := m.arcs.map fun a => ⟨a.src % m.N, a.dst % m.N, a.cap⟩ }
def fixC (m : Net) : Net := { m with arcs := m.arcs.map fun a => ⟨a.src, a.dst, if a.cap < 0 then 0 else a.cap⟩ }
def fixS (m : Net) : Net := { m with arcs := m.arcs.map fun a => ⟨a.src, a.dst, a.cap.fdiv 1024⟩ }

theorem okN_iff {m : Net} : okN m = true ↔ 2 ≤ m.N ∧ m.N ≤ 4096 := by simp [okN]
theorem vtx_iff {m : Net} {v : Int} : vtx m v = true ↔ 0 ≤ v ∧ v < m.N := by simp [vtx]
theorem okE_iff {m : Net} : okE m = true ↔ (0 ≤ m.S ∧ m.S < m.N) ∧ (0 ≤ m.T ∧ m.T < m.N) ∧ m.S ≠ m.T := by simp [okE, vtx, and_assoc]
theorem okM_iff {m : Net} : okM m = true ↔ m.arcs.length ≤ 16384 := by simp [okM]

structure FirstI (i : Nat) (last : Int) (m : Net) : Prop where
  hi : (i = 0 ∧ last = 0) ∨ (10 ≤ last ∧ last ≤ 15 ∧ (i : Int) ≤ last - 9)
  rules : ∀ p, p ∈ rulesOf m → p.2 ≤ last → p.1 = true
  len : m.arcs.length ≤ 300
  cap : ∀ a, a ∈ m.arcs → a.cap ≤ 9223372036854775807

theorem sumT_some : ∀ (l : List Ar.Arc) (left : Int), (∀ a, a ∈ l → 0 ≤ a.cap ∧ a.cap ≤ 9007199254740992) → 9007199254740992 * l.length ≤ left → (sumT left l).isSome = true
  | [], _, _, _ => rfl
  | x :: l, left, h, hl => by
    have hx := h x (by simp)
    simp only [List.length_cons] at hl
    have : ¬ (x.cap < 0 ∨ left < x.cap) := by omega
    simp only [sumT, if_neg this]
    exact sumT_some l _ (fun a ha => h a (by simp [ha])) (by omega)

theorem rules_iff (m : Net) (last : Int) : (∀ p, p ∈ rulesOf m → p.2 ≤ last → p.1 = true) ↔ ((10 ≤ last → okN m = true) ∧ (11 ≤ last → okM m = true) ∧ (12 ≤ last → okE m = true) ∧ (13 ≤ last → ∀ x, x ∈ m.arcs → vtx m x.src = true ∧ vtx m x.dst = true) ∧ (14 ≤ last → ∀ x, x ∈ m.arcs → 0 ≤ x.cap) ∧ (15 ≤ last → sumOk m.arcs = true)) := by
  unfold rulesOf
  simp [List.all_eq_true]

theorem first_step {i : Nat} {last : Int} {m : Net} (h : FirstI i last m) (he : chk m ≠ 0) :
    last < chk m ∧ 10 ≤ chk m ∧ chk m ≤ 15 ∧ (chk m = 10 ∧ FirstI (i + 1) 10 (fixN m) ∨ chk m = 12 ∧ FirstI (i + 1) 12 (fixE m) ∨ chk m = 13 ∧ 2 ≤ m.N ∧ m.N ≤ 4096 ∧ FirstI (i + 1) 13 (fixA m) ∨ chk m = 14 ∧ FirstI (i + 1) 14 (fixC m) ∨ chk m = 15 ∧ FirstI (i + 1) 15 (fixS m)) := by
  rcases chk_spec m with h0 | ⟨c1, c2, c3, p, hp, hp2, hp1⟩
  · exact absurd h0 he
  have hlt : last < chk m := by
    refine Classical.byContradiction fun hn => ?_
    have := h.rules p hp (by omega)
    rw [hp1] at this; cases this
  have hii : ((i + 1 : Nat) : Int) ≤ chk m - 9 := by
    rcases h.hi with ⟨rfl, rfl⟩ | ⟨a, b, c⟩ <;> omega
  have hprev : ∀ p, p ∈ rulesOf m → p.2 ≤ chk m - 1 → p.1 = true := fun q hq hle => c3 q hq (by omega)
  rw [rules_iff] at hprev
  obtain ⟨q1, q2, q3, q4, q5, q6⟩ := hprev
  have hM : okM m = true := by have := h.len; simp [okM]; omega
  refine ⟨hlt, c1, c2, ?_⟩
  rcases (by omega : chk m = 10 ∨ chk m = 11 ∨ chk m = 12 ∨ chk m = 13 ∨ chk m = 14 ∨ chk m = 15) with e | e | e | e | e | e
  · refine .inl ⟨e, .inr ⟨by omega, by omega, by omega⟩, ?_, h.len, h.cap⟩
    rw [rules_iff]
    refine ⟨fun _ => ?_, by omega, by omega, by omega, by omega, by omega⟩
    have h1 := Int.emod_nonneg m.N (by omega : (4000 : Int) ≠ 0)
    have h2 := Int.emod_lt_of_pos m.N (by omega : (0 : Int) < 4000)
    refine okN_iff.2 ?_
    show 2 ≤ 2 + m.N % 4000 ∧ 2 + m.N % 4000 ≤ 4096
    omega
  · exfalso
    rw [e] at hp2
    have : p = (okM m, 11) := by
      unfold rulesOf at hp
      simp only [List.mem_cons, List.not_mem_nil, or_false] at hp
      rcases hp with rfl | rfl | rfl | rfl | rfl | rfl <;> simp at hp2 ⊢
    rw [this, hM] at hp1; cases hp1
  · refine .inr (.inl ⟨e, .inr ⟨by omega, by omega, by omega⟩, ?_, h.len, h.cap⟩)
    rw [rules_iff]
    have hN := q1 (by omega)
    simp only [okN, Bool.and_eq_true, decide_eq_true_eq] at hN
    refine ⟨fun _ => okN_iff.2 hN, fun _ => hM, fun _ => okE_iff.2 ?_, by omega, by omega, by omega⟩
    show (0 ≤ (0 : Int) ∧ 0 < m.N) ∧ (0 ≤ (1 : Int) ∧ 1 < m.N) ∧ (0 : Int) ≠ 1
    omega
  · have hN := q1 (by omega)
    simp only [okN, Bool.and_eq_true, decide_eq_true_eq] at hN
    refine .inr (.inr (.inl ⟨e, hN.1, hN.2, .inr ⟨by omega, by omega, by omega⟩, ?_, by simpa [fixA] using h.len, fun a ha => ?_⟩))
    · rw [rules_iff]
      refine ⟨fun _ => okN_iff.2 hN, fun _ => by simpa [okM, fixA] using hM, fun _ => q3 (by omega), fun _ x hx => ?_, by omega, by omega⟩
      simp only [fixA, List.mem_map] at hx
      obtain ⟨y, _, rfl⟩ := hx
      have h1 := Int.emod_nonneg y.src (by omega : m.N ≠ 0)
      have h2 := Int.emod_lt_of_pos y.src (by omega : 0 < m.N)
      have h3 := Int.emod_nonneg y.dst (by omega : m.N ≠ 0)
      have h4 := Int.emod_lt_of_pos y.dst (by omega : 0 < m.N)
      exact ⟨vtx_iff.2 ⟨h1, h2⟩, vtx_iff.2 ⟨h3, h4⟩⟩
    · simp only [fixA, List.mem_map] at ha
      obtain ⟨y, hy, rfl⟩ := ha
      exact h.cap y hy
  · refine .inr (.inr (.inr (.inl ⟨e, .inr ⟨by omega, by omega, by omega⟩, ?_, by simpa [fixC] using h.len, fun a ha => ?_⟩)))
    · rw [rules_iff]
      refine ⟨fun _ => q1 (by omega), fun _ => by simpa [okM, fixC] using hM, fun _ => q3 (by omega), fun _ x hx => ?_, fun _ x hx => ?_, by omega⟩
      · simp only [fixC, List.mem_map] at hx
        obtain ⟨y, hy, rfl⟩ := hx
        exact q4 (by omega) y hy
      · simp only [fixC, List.mem_map] at hx
        obtain ⟨y, hy, rfl⟩ := hx
        simp only; split <;> omega
    · simp only [fixC, List.mem_map] at ha
      obtain ⟨y, hy, rfl⟩ := ha
      have := h.cap y hy
      simp only; split <;> omega
  · refine .inr (.inr (.inr (.inr ⟨e, .inr ⟨by omega, by omega, by omega⟩, ?_, by simpa [fixS] using h.len, fun a ha => ?_⟩)))
    · rw [rules_iff]
      have hsh : ∀ y, y ∈ m.arcs → 0 ≤ y.cap.fdiv 1024 ∧ y.cap.fdiv 1024 ≤ 9007199254740992 := fun y hy => by
        have h1 := q5 (by omega) y hy
        have h2 := h.cap y hy
        rw [Int.fdiv_eq_ediv_of_nonneg _ (by omega)]
        omega
      refine ⟨fun _ => q1 (by omega), fun _ => by simpa [okM, fixS] using hM, fun _ => q3 (by omega), fun _ x hx => ?_, fun _ x hx => ?_, fun _ => ?_⟩
      · simp only [fixS, List.mem_map] at hx
        obtain ⟨y, hy, rfl⟩ := hx
        exact q4 (by omega) y hy
      · simp only [fixS, List.mem_map] at hx
        obtain ⟨y, hy, rfl⟩ := hx
        exact (hsh y hy).1
      · refine sumT_some _ _ (fun a ha => ?_) ?_
        · simp only [fixS, List.mem_map] at ha
          obtain ⟨y, hy, rfl⟩ := ha
          exact hsh y hy
        · have := h.len
          simp only [fixS, List.length_map, big]; omega
    · simp only [fixS, List.mem_map] at ha
      obtain ⟨y, hy, rfl⟩ := ha
      have h1 := q5 (by omega) y hy
      have := h.cap y hy
      simp only
      rw [Int.fdiv_eq_ediv_of_nonneg _ (by omega)]
      omega

/-! ### A net that lies in memory -/
theorem acells_set (l : List Ar.Arc) : ∀ (i j : Nat) (v : V) (a' : Ar.Arc) (hi : i < l.length), j < 3 → (l[i]).cells.set j v = a'.cells → (acells l).set (i * 3 + j) v = acells (l.set i a') := by
  induction l with
  | nil => intro i j v a' hi; simp at hi
  | cons x l ih =>
    intro i j v a' hi hj h
    cases i with
    | zero =>
      simp only [List.getElem_cons_zero] at h
      simp only [acells, List.flatMap_cons, List.set_cons_zero, Nat.zero_mul, Nat.zero_add]
      rw [← h, List.set_append_left _ _ (by simp [Arc.cells]; omega)]
    | succ i =>
      simp only [List.getElem_cons_succ] at h
      simp only [acells, List.flatMap_cons, List.set_cons_succ]
      rw [List.set_append_right _ _ (by simp [Arc.cells]; omega)]
      have : (i + 1) * 3 + j - (Arc.cells x).length = i * 3 + j := by simp [Arc.cells]; omega
      rw [this]
      have := ih i j v a' (by simpa using hi) hj h
      simp only [acells] at this
      rw [this]
structure MB (B : Nat) (H : Heap) (k3 : Nat) (m : Net) (x : V) : Prop where
  ge : B ≤ k3
  box : H[k3]? = some (nbox m x)
  own : Own3 H B x m.arcs
  ne : ∀ k, x.blk? = some k → k ≠ k3
namespace MB
variable {B k3 : Nat} {H : Heap} {m : Net} {x : V}
theorem app (h : MB B H k3 m x) (G : Heap) : MB B (H ++ G) k3 m x := ⟨h.ge, by rw [List.getElem?_append_left (List.getElem?_eq_some_iff.1 h.box).1]; exact h.box, h.own.app G, h.ne⟩
theorem rd (h : MB B H k3 m x) : ∀ G, rdn (H ++ G) k3 0 4 = some [.int .i64 m.N, .int .i64 m.S, .int .i64 m.T, x] := fun G => by
  simp only [rdn]
  rw [List.getElem?_append_left (List.getElem?_eq_some_iff.1 h.box).1, h.box]; rfl
theorem rd0 (h : MB B H k3 m x) : ∀ G, Ar.rd (H ++ G) k3 0 = some (.int .i64 m.N) := fun G => by
  simp only [Ar.rd]
  rw [List.getElem?_append_left (List.getElem?_eq_some_iff.1 h.box).1, h.box]; rfl
theorem rd3 (h : MB B H k3 m x) : ∀ G, Ar.rd (H ++ G) k3 3 = some x := fun G => by
  simp only [Ar.rd]
  rw [List.getElem?_append_left (List.getElem?_eq_some_iff.1 h.box).1, h.box]; rfl
theorem lt (h : MB B H k3 m x) : k3 < H.length := (List.getElem?_eq_some_iff.1 h.box).1
theorem put (h : MB B H k3 m x) {m' : Net} (hm : m'.arcs = m.arcs) : MB B (H.set k3 (nbox m' x)) k3 m' x :=
  ⟨h.ge, List.getElem?_set_self h.lt, by rw [hm]; exact h.own.frame fun k hk => List.getElem?_set_ne (fun e => h.ne k hk e.symm), h.ne⟩
/-- An arc, read; one of its numbers, written. -/
theorem arc (h : MB B H k3 m x) {i : Nat} (hi : i < m.arcs.length) : ∃ k, x = .sl k 0 m.arcs.length m.arcs.length ∧ B ≤ k ∧ k < H.length ∧ (∀ G, rdn (H ++ G) k (i * 3) 3 = some (m.arcs[i].cells)) ∧
    ∀ j v (a' : Ar.Arc), j < 3 → v.scalar = true → m.arcs[i].cells.set j v = a'.cells → ∃ H', wr H k (i * 3 + j) [v] = some H' ∧ H'.length = H.length ∧ MB B H' k3 { m with arcs := m.arcs.set i a' } x ∧ ∀ k', k' ≠ k → H'[k']? = H[k']? := by
  have hal := h.own.al
  rcases h.own with ⟨_, hn⟩ | ⟨k, md, rfl, hb, hk, hmd⟩
  · rw [hn] at hi; simp at hi
  · have hmd' : md = .gr 3 := by
      rcases hmd with h | ⟨_, hn⟩
      · exact h
      · rw [hn] at hi; simp at hi
    subst hmd'
    have hkl := (List.getElem?_eq_some_iff.1 hk).1
    refine ⟨k, rfl, hb, hkl, fun G => ?_, fun j v a' hj hv ha => ?_⟩
    · obtain ⟨k', o, c, e, _, hr, _⟩ := hal.at hi
      cases e
      simpa using hr G
    · have hw := wr1 (o := i * 3 + j) (v := v) hk rfl (by rw [acells_length]; omega) hv
      rw [acells_set _ i j v a' hi hj ha] at hw
      refine ⟨_, hw, by simp, ⟨h.ge, ?_, .inr ⟨k, .gr 3, by simp, hb, List.getElem?_set_self hkl, .inl rfl⟩, h.ne⟩, fun k' hk' => List.getElem?_set_ne (fun e => hk' e.symm)⟩
      rw [List.getElem?_set_ne (h.ne k rfl)]
      exact h.box
end MB
/-- A row, turned from the front. -/
def mixL (g : Ar.Arc → Ar.Arc) (l : List Ar.Arc) (i : Nat) : List Ar.Arc := (l.take i).map g ++ l.drop i
theorem mixL_length (g : Ar.Arc → Ar.Arc) (l : List Ar.Arc) (i : Nat) (hi : i ≤ l.length) : (mixL g l i).length = l.length := by simp [mixL]; omega
theorem mixL_get (g : Ar.Arc → Ar.Arc) (l : List Ar.Arc) (i : Nat) (hi : i < l.length) (h : i < (mixL g l i).length) : (mixL g l i)[i] = l[i] := by
  simp only [mixL]
  rw [List.getElem_append_right (by simp; omega)]
  simp [Nat.min_eq_left (Nat.le_of_lt hi)]
theorem mixL_set (g : Ar.Arc → Ar.Arc) (l : List Ar.Arc) (i : Nat) (hi : i < l.length) : (mixL g l i).set i (g l[i]) = mixL g l (i + 1) := by
  refine List.ext_getElem (by simp [mixL]; omega) fun j h1 h2 => ?_
  rw [List.getElem_set]
  by_cases e : i = j
  · subst e
    rw [if_pos rfl]
    simp only [mixL]
    rw [List.getElem_append_left (by simp; omega)]
    simp
  · rw [if_neg e]
    simp only [mixL]
    by_cases hj : j < i
    · rw [List.getElem_append_left (by simp; omega), List.getElem_append_left (by simp; omega)]; simp
    · rw [List.getElem_append_right (by simp; omega), List.getElem_append_right (by simp; omega)]
      simp
      congr 1
      omega
theorem mixL_full (g : Ar.Arc → Ar.Arc) (l : List Ar.Arc) : mixL g l l.length = l.map g := by simp [mixL]
end Go.Proofs.Ytpojdgeginigjaa
