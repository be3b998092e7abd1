/- Nets that are the same; nets that are turned. -/
import Derived.Test.YtpojdgeginigjaaNe
import Derived.Test.YtpojdgeginigjaaNaG
set_option linter.unusedSimpArgs false
set_option linter.unusedVariables false
namespace Go.Proofs.Ytpojdgeginigjaa
open Go Go.Ar
set_option maxRecDepth 100000

theorem eqAll_arc (a b : Ar.Arc) : eqAll [true, true, true] a.cells b.cells = some (decide (a = b)) := by
  obtain ⟨a1, a2, a3⟩ := a
  obtain ⟨b1, b2, b3⟩ := b
  simp only [Arc.cells, eqAll, if_true, Ar.Arc.mk.injEq]
  by_cases h1 : a1 = b1
  · subst h1
    by_cases h2 : a2 = b2
    · subst h2
      by_cases h3 : a3 = b3
      · subst h3; simp
      · have : (a3 == b3) = false := by simpa using h3
        simp [this, h3]
    · have : (a2 == b2) = false := by simpa using h2
      simp [this, h2]
  · have : (a1 == b1) = false := by simpa using h1
    simp [this, h1]

theorem pc_equal {a b : V} {l1 l2 : List Ar.Arc} {H : Heap} (h1 : AL H a l1) (h2 : AL H b l2) (hs : l1.length ≤ 2 ^ 40) : Pc E 87 [a, b] H (.bool (decide (l1 = l2))) := Pc.mk fun G => by
  have hA := h1.app G
  have hB := h2.app G
  clear h1 h2
  generalize H ++ G = H1 at *
  refine call_E rfl nc87 rfl ?_
  unfold gc87
  have hla : lenOf a = some l1.length := Rw.len hA
  have hlb : lenOf b = some l2.length := Rw.len hB
  refine wa_sr ⟨_, by simp; rfl, ?_⟩
  refine wa_sr ⟨_, by simp [hla, hlb]; rfl, ?_⟩
  by_cases hlen : l1.length = l2.length
  case neg =>
    refine wa_if (t := true) (by simp; omega) (fun _ => ?_) (fun h => by cases h)
    refine wa_sr ⟨_, by simp; rfl, ?_⟩
    have : l1 ≠ l2 := fun e => hlen (by rw [e])
    exact wa_rt ⟨by simp, _, by simp; rfl, by simp [this], [], by simp⟩
  refine wa_if (t := false) (by simp [hlen]) (fun h => by cases h) (fun _ => ?_)
  refine wa_sr ⟨_, by simp [hla]; rfl, ?_⟩
  refine wa_cut (fun s => s.H = H1 ∧ l1 = l2) ?_ ?_
  · refine wa_for (n := l1.length) (fun i (_ : Unit) => [(0, a), (1, b)]) (fun i _ H' => H' = H1 ∧ ∀ (j : Nat) (hj : j < l1.length), j < i → l1[j] = l2[j]'(by omega)) ()
      (by decide) (fun i hi => w64 (by omega) (by omega)) (by simp) (by simp) (by simp [Rg]) ⟨rfl, fun j _ h => by omega⟩ (by simp) ?_ ?_
    · rintro i _ τ H2 hi t13 t12 ⟨t0, t1, -⟩ ⟨rfl, hall⟩
      dsimp only [ev] at *
      have hi2 : i < l2.length := by omega
      obtain ⟨k, o, c, rfl, _, _, hr⟩ := hA.at hi
      obtain ⟨k2, o2, c2, rfl, _, _, hr2⟩ := hB.at hi2
      have he := eqAll_arc l1[i] l2[i]
      refine wa_sr ⟨_, by simp [t13]; rfl, ?_⟩
      refine wa_dr rfl rfl ⟨_, by simp -implicitDefEqProofs [t0, t1, hi, hi2, hr, hr2, he]; rfl, ?_⟩
      by_cases hc : l1[i] = l2[i]
      · refine wa_cond (t := false) (by simp [hc]) (fun h => by cases h) (fun _ => wa_skip ?_)
        refine ⟨by simp [t13], by simp [t12], (), by simp [Rg, t0, t1], rfl, fun j hj hji => ?_⟩
        by_cases e : j = i
        · subst e; exact hc
        · exact hall j hj (by omega)
      · refine wa_cond (t := true) (by simp [hc]) (fun _ => ?_) (fun h => by cases h)
        refine wa_sr ⟨_, by simp; rfl, ?_⟩
        have : l1 ≠ l2 := fun e => hc (by simp [e])
        exact wa_ret ⟨by simp, _, by simp; rfl, by simp [this], [], by simp⟩
    · rintro _ τ H2 - ⟨rfl, hall⟩
      exact ⟨rfl, List.ext_getElem hlen fun j h1 h2 => hall j h1 h1⟩
  · rintro ⟨τ, H2⟩ ⟨hH, he⟩
    dsimp only at hH
    refine wa_sr ⟨_, by simp; rfl, ?_⟩
    exact wa_ret ⟨by simp, _, by simp; rfl, by simp [he], [], by simpa using hH⟩

def sameB (m n : Net) : Bool := decide (m.N = n.N ∧ m.S = n.S ∧ m.T = n.T ∧ m.arcs = n.arcs)
theorem pc_same {m n : Net} {a b : V} {H : Heap} (h1 : AL H a m.arcs) (h2 : AL H b n.arcs) (hs : m.arcs.length ≤ 2 ^ 40) : Pc E 42 [NV m a, NV n b] H (.bool (sameB m n)) := Pc.mk fun G => by
  obtain ⟨f, hf⟩ := pc_equal h1 h2 hs
  refine call_E rfl nc42 rfl ?_
  unfold gc42 NV
  have hla : a.cells = some [a] := Rw.one h1
  have hlb : b.cells = some [b] := Rw.one h2
  refine wa_sr ⟨_, by simp [hla, hlb]; rfl, ?_⟩
  by_cases e1 : m.N = n.N
  · by_cases e2 : m.S = n.S
    · by_cases e3 : m.T = n.T
      · refine wa_sr ⟨_, by simp -implicitDefEqProofs [e1, e2, e3, hf]; rfl, ?_⟩
        exact wa_ret ⟨by simp, _, by simp; rfl, by simp [sameB, e1, e2, e3], _, by simp; rfl⟩
      · have e3' : (m.T == n.T) = false := by simpa using e3
        refine wa_sr ⟨_, by simp -implicitDefEqProofs [e1, e2, e3', hf]; rfl, ?_⟩
        exact wa_ret ⟨by simp, _, by simp; rfl, by simp [sameB, e3], _, by simp; rfl⟩
    · have e2' : (m.S == n.S) = false := by simpa using e2
      refine wa_sr ⟨_, by simp -implicitDefEqProofs [e1, e2', hf]; rfl, ?_⟩
      exact wa_ret ⟨by simp, _, by simp; rfl, by simp [sameB, e2], _, by simp; rfl⟩
  · have e1' : (m.N == n.N) = false := by simpa using e1
    refine wa_sr ⟨_, by simp -implicitDefEqProofs [e1', hf]; rfl, ?_⟩
    exact wa_ret ⟨by simp, _, by simp; rfl, by simp [sameB, e1], _, by simp; rfl⟩

theorem sameB_false {m n : Net} (h : ¬ (m.N = n.N ∧ m.S = n.S ∧ m.T = n.T ∧ m.arcs = n.arcs)) : sameB m n = false := by simpa [sameB] using h
theorem sameB_true {m n : Net} (h : m.N = n.N ∧ m.S = n.S ∧ m.T = n.T ∧ m.arcs = n.arcs) : sameB m n = true := by simpa [sameB] using h

theorem pc_samenet {m n : Net} {a b : V} {H : Heap} (h1 : AL H a m.arcs) (h2 : AL H b n.arcs) (hs : m.arcs.length ≤ 2 ^ 40) : Pc E 41 [NV m a, NV n b] H (.bool (sameB m n)) := Pc.mk fun G => by
  have hA := (h1.app G).app [nbox m a, nbox n b]
  have hB := (h2.app G).app [nbox m a, nbox n b]
  have hla : lenOf a = some m.arcs.length := Rw.len h1
  have hlb : lenOf b = some n.arcs.length := Rw.len h2
  clear h1 h2
  generalize H ++ G = H1 at *
  refine call_E rfl nc41 rfl ?_
  unfold gc41 NV
  refine wa_sr ⟨_, by simp [len_cells hla, len_cells hlb]; rfl, ?_⟩
  refine wa_cut (fun s => s.H = H1 ++ [nbox m a, nbox n b] ∧ s.τ 2 = .ptr H1.length 0 ∧ s.τ 3 = .ptr (H1.length + 1) 0 ∧ s.τ 33 = .bool (!decide (m.N = n.N ∧ m.S = n.S ∧ m.T = n.T ∧ m.arcs.length = n.arcs.length))) ?_ ?_
  · by_cases e1 : m.N = n.N
    · by_cases e2 : m.S = n.S
      · by_cases e3 : m.T = n.T
        · by_cases e4 : m.arcs.length = n.arcs.length
          · refine wa_regs ⟨_, by simp -implicitDefEqProofs [e1, e2, e3, e4, hla, hlb]; rfl, ?_⟩
            exact ⟨by simp [nbox, e1, e2, e3], by simp, by simp, by simp [e1, e2, e3, e4]⟩
          · have e4' : ((m.arcs.length : Int) != (n.arcs.length : Int)) = true := by simp; omega
            refine wa_regs ⟨_, by simp -implicitDefEqProofs [e1, e2, e3, e4', hla, hlb]; rfl, ?_⟩
            exact ⟨by simp [nbox, e1, e2, e3], by simp, by simp, by simp [e4]⟩
        · have e3' : (m.T != n.T) = true := by simpa using e3
          refine wa_regs ⟨_, by simp -implicitDefEqProofs [e1, e2, e3']; rfl, ?_⟩
          exact ⟨by simp [nbox, e1, e2], by simp, by simp, by simp [e3]⟩
      · have e2' : (m.S != n.S) = true := by simpa using e2
        refine wa_regs ⟨_, by simp -implicitDefEqProofs [e1, e2']; rfl, ?_⟩
        exact ⟨by simp [nbox, e1], by simp, by simp, by simp [e2]⟩
    · have e1' : (m.N != n.N) = true := by simpa using e1
      refine wa_regs ⟨_, by simp -implicitDefEqProofs [e1']; rfl, ?_⟩
      exact ⟨by simp [nbox], by simp, by simp, by simp [e1]⟩
  rintro ⟨τ, H2⟩ ⟨hH2, t2, t3, t33⟩
  dsimp only at hH2 t2 t3 t33
  subst hH2
  by_cases hd : m.N = n.N ∧ m.S = n.S ∧ m.T = n.T ∧ m.arcs.length = n.arcs.length
  case neg =>
    refine wa_if (t := true) (by simp only [ev]; rw [t33]; simp [hd]) (fun _ => ?_) (fun h => by cases h)
    refine wa_sr ⟨_, by simp; rfl, ?_⟩
    have : sameB m n = false := sameB_false fun ⟨a, b, c, d⟩ => hd ⟨a, b, c, by rw [d]⟩
    exact wa_rt ⟨by simp, _, by simp; rfl, by simp [this], _, by simp; rfl⟩
  refine wa_if (t := false) (by simp only [ev]; rw [t33]; simp [hd]) (fun h => by cases h) (fun _ => ?_)
  obtain ⟨d1, d2, d3, hlen⟩ := hd
  have p2 : rd (H1 ++ [nbox m a, nbox n b]) H1.length 3 = some a := by simp [nbox]
  have p3 : rd (H1 ++ [nbox m a, nbox n b]) (H1.length + 1) 3 = some b := by simp [nbox]
  refine wa_sr ⟨_, by simp -implicitDefEqProofs [t2, p2, hla]; rfl, ?_⟩
  refine wa_cut (fun s => s.H = H1 ++ [nbox m a, nbox n b] ∧ m.arcs = n.arcs) ?_ ?_
  · refine wa_for (n := m.arcs.length) (fun i (_ : Unit) => [(2, .ptr H1.length 0), (3, .ptr (H1.length + 1) 0)]) (fun i _ H' => H' = H1 ++ [nbox m a, nbox n b] ∧ ∀ (j : Nat) (hj : j < m.arcs.length), j < i → m.arcs[j] = n.arcs[j]'(by omega)) ()
      (by decide) (fun i hi => w64 (by omega) (by omega)) (by simp) (by simp) (by simp [Rg, t2, t3]) ⟨rfl, fun j _ h => by omega⟩ (by simp) ?_ ?_
    · rintro i _ τ H2 hi t37 t36 ⟨t2, t3, -⟩ ⟨rfl, hall⟩
      dsimp only [ev] at *
      have hi2 : i < n.arcs.length := by omega
      obtain ⟨k, o, c, rfl, _, _, hr⟩ := hA.at hi
      obtain ⟨k2, o2, c2, rfl, _, _, hr2⟩ := hB.at hi2
      have he := eqAll_arc m.arcs[i] n.arcs[i]
      refine wa_sr ⟨_, by simp [t37]; rfl, ?_⟩
      refine wa_dr rfl rfl ⟨_, by simp -implicitDefEqProofs [t2, t3, p2, p3, hi, hi2, hr, hr2, he]; rfl, ?_⟩
      by_cases hc : m.arcs[i] = n.arcs[i]
      · refine wa_cond (t := false) (by simp [hc]) (fun h => by cases h) (fun _ => wa_skip ?_)
        refine ⟨by simp [t37], by simp [t36], (), by simp [Rg, t2, t3], rfl, fun j hj hji => ?_⟩
        by_cases e : j = i
        · subst e; exact hc
        · exact hall j hj (by omega)
      · refine wa_cond (t := true) (by simp [hc]) (fun _ => ?_) (fun h => by cases h)
        refine wa_sr ⟨_, by simp; rfl, ?_⟩
        have : sameB m n = false := sameB_false fun ⟨_, _, _, d⟩ => hc (by simp [d])
        exact wa_ret ⟨by simp, _, by simp; rfl, by simp [this], _, by simp; rfl⟩
    · rintro _ τ H2 - ⟨rfl, hall⟩
      exact ⟨rfl, List.ext_getElem hlen fun j h1 h2 => hall j h1 h1⟩
  · rintro ⟨τ, H2⟩ ⟨hH, he⟩
    dsimp only at hH
    refine wa_sr ⟨_, by simp; rfl, ?_⟩
    exact wa_ret ⟨by simp, _, by simp; rfl, by simp [sameB_true ⟨d1, d2, d3, he⟩], [nbox m a, nbox n b], by simpa using hH⟩

/-! ### Turned -/
def flip (a : Ar.Arc) : Ar.Arc := ⟨a.dst, a.src, a.cap⟩
def turn (n : Net) : Net := ⟨n.N, n.T, n.S, n.arcs.map flip⟩
theorem flip_flip (a : Ar.Arc) : flip (flip a) = a := rfl
theorem turn_turn (n : Net) : turn (turn n) = n := by
  obtain ⟨N, S, T, l⟩ := n
  simp only [turn, List.map_map]
  have : flip ∘ flip = id := rfl
  rw [this, List.map_id]

theorem acells_wrc (l : List Ar.Arc) (i : Nat) (a' : Ar.Arc) (hi : i < l.length) : wrc (acells l) (i * 3) a'.cells = acells (l.set i a') := by
  obtain ⟨x, y, z⟩ := a'
  have h1 := acells_set l i 0 (.int .i64 x) ⟨x, l[i].dst, l[i].cap⟩ hi (by omega) rfl
  have h2 := acells_set (l.set i ⟨x, l[i].dst, l[i].cap⟩) i 1 (.int .i64 y) ⟨x, y, l[i].cap⟩ (by simpa using hi) (by omega) (by simp [Arc.cells])
  have h3 := acells_set ((l.set i ⟨x, l[i].dst, l[i].cap⟩).set i ⟨x, y, l[i].cap⟩) i 2 (.int .i64 z) ⟨x, y, z⟩ (by simpa using hi) (by omega) (by simp [Arc.cells])
  simp only [List.set_set, Nat.add_zero] at h1 h2 h3
  show (((acells l).set (i * 3) _).set (i * 3 + 1) _).set (i * 3 + 1 + 1) _ = _
  rw [h1, h2]
  exact h3
theorem wrN {H : Heap} {k o : Nat} {cs vs : List V} {m : Ar.Mode} (hk : H[k]? = some (.cells cs m)) (hm : m.wr = true) (ho : o + vs.length ≤ cs.length) (hv : vs.all V.scalar = true) : wr H k o vs = some (H.set k (.cells (wrc cs o vs) m)) := by
  unfold wr
  rw [hk]
  simp only [hm]
  rw [if_neg (by simp), if_pos ho, if_pos hv]
theorem MB.arc3 {B k3 : Nat} {H : Heap} {m : Net} {x : V} (h : MB B H k3 m x) {i : Nat} (hi : i < m.arcs.length) (a' : Ar.Arc) : ∃ k H', x = .sl k 0 m.arcs.length m.arcs.length ∧ wr H k (i * 3) a'.cells = some H' ∧ H'.length = H.length ∧ MB B H' k3 { m with arcs := m.arcs.set i a' } x ∧ ∀ k', k' ≠ k → H'[k']? = H[k']? := by
  rcases h.own with ⟨_, hn⟩ | ⟨k, md, rfl, hb, hk, hmd⟩
  · rw [hn] at hi; simp at hi
  · have hmd' : md = .gr 3 := by
      rcases hmd with h | ⟨_, hn⟩
      · exact h
      · rw [hn] at hi; simp at hi
    subst hmd'
    have hkl := (List.getElem?_eq_some_iff.1 hk).1
    refine ⟨k, H.set k (.cells (acells (m.arcs.set i a')) (.gr 3)), rfl, ?_, by simp, ⟨h.ge, ?_, .inr ⟨k, .gr 3, by simp, hb, List.getElem?_set_self hkl, .inl rfl⟩, h.ne⟩, fun k' hk' => List.getElem?_set_ne (fun e => hk' e.symm)⟩
    · rw [wrN hk rfl (by rw [acells_length]; simp [Arc.cells]; omega) rfl, acells_wrc _ _ _ hi]
    · rw [List.getElem?_set_ne (h.ne k rfl)]
      exact h.box
end Go.Proofs.Ytpojdgeginigjaa
