/- Copies; numbers among so many; arcs that are written. -/
import Derived.Test.YtpojdgeginigjaaNc
set_option linter.unusedSimpArgs false
set_option linter.unusedVariables false
namespace Go.Proofs.Ytpojdgeginigjaa
open Go Go.Ar
set_option maxRecDepth 100000

theorem emod_of {x n : Int} (hn : 0 < n) : (x.tmod n + n).tmod n = x % n := by
  have h1 := Int.tmod_lt_of_pos x hn
  have h2 : -n < x.tmod n := Int.lt_tmod_of_pos x hn
  rw [Int.tmod_eq_emod_of_nonneg (by omega), Int.add_emod_right, Int.tmod_eq_emod]
  split
  · simp
  · have : (n.natAbs : Int) = n := by omega
    rw [this, Int.sub_emod, Int.emod_self, Int.sub_zero, Int.emod_emod_of_dvd _ (Int.dvd_refl _), Int.emod_emod_of_dvd _ (Int.dvd_refl _)]

theorem among_ok {x n : Int} (h1 : 1 ≤ n) (h2 : n ≤ 2 ^ 40) (H : Heap) : callL E (.f 29) [.int .i64 x, .int .i64 n] H = some (.int .i64 (x % n), H) := by
  have key : ∃ v H', callL E (.f 29) [.int .i64 x, .int .i64 n] H = some (v, H') ∧ v = .int .i64 (x % n) ∧ H' = H := by
    refine call_E rfl nc29 rfl ?_
    unfold gc29
    have hn : ¬ n < 1 := by omega
    have hn0 : n ≠ 0 := by omega
    have m1 := Int.tmod_lt_of_pos x (by omega : 0 < n)
    have m2 : -n < x.tmod n := Int.lt_tmod_of_pos x (by omega)
    have hw : IntKind.i64.wrap (x.tmod n + n) = x.tmod n + n := w64 (by omega) (by omega)
    refine wa_sr ⟨_, by simp; rfl, ?_⟩
    refine wa_sr ⟨_, by simp; rfl, ?_⟩
    refine wa_if (t := false) (by simp [hn]) (fun h => by cases h) (fun _ => ?_)
    refine wa_sr ⟨_, by simp [hn0, hw]; rfl, ?_⟩
    exact wa_ret ⟨by simp, _, by simp; rfl, by simp [emod_of (by omega : 0 < n)], rfl⟩
  obtain ⟨v, H', h, rfl, rfl⟩ := key
  exact h

def Sl (x : V) : Prop := x = .nils ∨ ∃ k o l c, x = .sl k o l c
def acells (l : List Ar.Arc) : List V := l.flatMap Arc.cells
theorem acells_length (l : List Ar.Arc) : (acells l).length = l.length * 3 := by
  induction l with
  | nil => rfl
  | cons x l ih => simp only [acells, List.flatMap_cons, List.length_append] at ih ⊢; rw [ih]; simp [Arc.cells]; omega
theorem acells_scalar (l : List Ar.Arc) : (acells l).all V.scalar = true := by
  induction l with
  | nil => rfl
  | cons x l ih => simp only [acells, List.flatMap_cons, List.all_append] at ih ⊢; rw [ih]; rfl
/-- A row of arcs that is owned. -/
def Own3 (H : Heap) (B : Nat) (x : V) (l : List Ar.Arc) : Prop := (x = .nils ∧ l = []) ∨ ∃ k m, x = .sl k 0 l.length l.length ∧ B ≤ k ∧ H[k]? = some (.cells (acells l) m) ∧ (m = .gr 3 ∨ (m = .ex ∧ l = []))
theorem Own3.sl {H : Heap} {B : Nat} {x : V} {l : List Ar.Arc} (h : Own3 H B x l) : Sl x := by
  rcases h with ⟨rfl, _⟩ | ⟨k, m, rfl, _⟩
  · exact .inl rfl
  · exact .inr ⟨_, _, _, _, rfl⟩
theorem AL.own {H : Heap} {k c : Nat} {l : List Ar.Arc} {m : Ar.Mode} (h : H[k]? = some (.cells (acells l) m)) : AL H (.sl k 0 l.length c) l := by
  refine ⟨rfl, ?_⟩
  simp only [cellsOf, rdn, h]
  rw [if_pos (by rw [acells_length]; omega)]
  simp only [List.drop_zero]
  rw [List.take_of_length_le (by rw [acells_length]; omega)]; rfl
theorem Own3.al {H : Heap} {B : Nat} {x : V} {l : List Ar.Arc} (h : Own3 H B x l) : AL H x l := by
  rcases h with ⟨rfl, rfl⟩ | ⟨k, m, rfl, _, h, _⟩
  · exact ⟨rfl, rfl⟩
  · exact AL.own h
theorem Own3.frame {H H' : Heap} {B : Nat} {x : V} {l : List Ar.Arc} (h : Own3 H B x l) (e : ∀ k, x.blk? = some k → H'[k]? = H[k]?) : Own3 H' B x l := by
  rcases h with ⟨rfl, rfl⟩ | ⟨k, m, rfl, hb, h, hm⟩
  · exact .inl ⟨rfl, rfl⟩
  · exact .inr ⟨k, m, rfl, hb, (e k rfl).trans h, hm⟩
theorem Own3.app {H : Heap} {B : Nat} {x : V} {l : List Ar.Arc} (h : Own3 H B x l) (G : Heap) : Own3 (H ++ G) B x l := h.frame fun k hk => List.getElem?_append_left (Rw.lt h.al k hk)
theorem Own3.ge {H : Heap} {B : Nat} {x : V} {l : List Ar.Arc} (h : Own3 H B x l) : ∀ k, x.blk? = some k → B ≤ k := by
  intro k hk
  rcases h with ⟨rfl, rfl⟩ | ⟨k', m, rfl, hb, _⟩
  · simp [V.blk?] at hk
  · simp [V.blk?] at hk; omega

theorem clone3_ok {a : V} {l : List Ar.Arc} {H : Heap} (h : AL H a l) (hx : Sl a) (hs : l.length ≤ 2 ^ 20) : ∃ x H', callL E (.f 76) [a] H = some (x, H') ∧ (∃ G, H' = H ++ G) ∧ Own3 H' H.length x l := by
  have key : ∃ v H', callL E (.f 76) [a] H = some (v, H') ∧ (∃ G, H' = H ++ G) ∧ Own3 H' H.length v l := by
    refine call_E rfl nc76 rfl ?_
    unfold gc76
    refine wa_sr ⟨_, by simp; rfl, ?_⟩
    rcases hx with rfl | ⟨k, o, n, c, rfl⟩
    · have hl : l = [] := List.eq_nil_of_length_eq_zero (by have := Rw.len h; simpa [lenOf] using this.symm)
      subst hl
      refine wa_sr ⟨_, by simp; rfl, ?_⟩
      refine wa_if (t := true) (by simp) (fun _ => ?_) (fun h => by cases h)
      refine wa_sr ⟨_, by simp; rfl, ?_⟩
      exact wa_rt ⟨by simp, _, by simp; rfl, ⟨[], by simp⟩, .inl ⟨rfl, rfl⟩⟩
    · obtain ⟨x', H', a1, a2⟩ := appnew_ok (sz := 3) (by' := 24) (Rw.len h) h.cells (Rw.lt h) (acells_scalar l) (acells_length l) (by omega) (by unfold lim; omega)
      refine wa_sr ⟨_, by simp; rfl, ?_⟩
      refine wa_if (t := false) (by simp) (fun h => by cases h) (fun _ => ?_)
      refine wa_sr ⟨_, by simp [fillc, a1]; rfl, ?_⟩
      refine wa_ret ⟨by simp, _, by simp; rfl, ?_, ?_⟩
      · rcases a2 with ⟨_, _, rfl⟩ | ⟨_, _, rfl⟩
        · exact ⟨_, rfl⟩
        · exact ⟨_, by simp; rfl⟩
      · rcases a2 with ⟨h0, rfl, rfl⟩ | ⟨h0, rfl, rfl⟩
        · have : l = [] := List.eq_nil_of_length_eq_zero h0
          subst this
          exact .inr ⟨H.length, .ex, by simp, Nat.le_refl _, by simp [acells], .inr ⟨rfl, rfl⟩⟩
        · exact .inr ⟨H.length + 1, .gr 3, by simp, by omega, by simp [acells], .inl rfl⟩
  exact key
theorem copy_ok {n : Net} {a : V} {H : Heap} (h : AL H a n.arcs) (hx : Sl a) (hs : n.arcs.length ≤ 2 ^ 20) : ∃ x H', callL E (.f 27) [NV n a] H = some (NV n x, H') ∧ (∃ G, H' = H ++ G) ∧ Own3 H' H.length x n.arcs := by
  have key : ∃ v H', callL E (.f 27) [NV n a] H = some (v, H') ∧ ∃ x, v = NV n x ∧ (∃ G, H' = H ++ G) ∧ Own3 H' H.length x n.arcs := by
    refine call_E rfl nc27 rfl ?_
    unfold gc27 NV
    have hl : lenOf a = some n.arcs.length := Rw.len h
    have hc := h.app [nbox n a, .cells [.int .i64 0, .int .i64 0, .int .i64 0, .nils] .ex]
    obtain ⟨x, H', c1, ⟨G, rfl⟩, c3⟩ := clone3_ok hc hx hs
    have hxl : x.cells = some [x] := Rw.one c3.al
    have hxs : x.scalar = true := len_scalar (Rw.len c3.al)
    unfold nbox at c1 c3
    simp only [List.append_assoc, List.cons_append, List.nil_append] at c1 c3
    refine wa_sr ⟨_, by simp [len_cells hl]; rfl, ?_⟩
    refine wa_sr ⟨_, by simp -implicitDefEqProofs [c1, hxl, hxs]; rfl, ?_⟩
    refine wa_sr ⟨_, by simp -implicitDefEqProofs [hxs]; rfl, ?_⟩
    refine wa_ret ⟨by simp, _, by simp; rfl, x, by simp, ⟨_, rfl⟩, ?_⟩
    have h1 : Own3 (H ++ (.cells [.int .i64 n.N, .int .i64 n.S, .int .i64 n.T, x] .ex :: .cells [.int .i64 n.N, .int .i64 n.S, .int .i64 n.T, x] .ex :: G)) (H.length + 2) x n.arcs := by
      rw [show H.length + 2 = (H ++ [nbox n a, .cells [.int .i64 0, .int .i64 0, .int .i64 0, .nils] .ex]).length by simp]
      refine c3.frame fun k hk => ?_
      have := c3.ge k hk
      simp at this
      rw [List.getElem?_append_right (by omega), List.getElem?_append_right (by omega)]
      obtain ⟨j, hj⟩ : ∃ j, k - H.length = j + 2 := ⟨k - H.length - 2, by omega⟩
      rw [hj]; rfl
    rcases h1 with ⟨h2, h3⟩ | ⟨k, m, h2, h3, h4, h5⟩
    · exact .inl ⟨h2, h3⟩
    · exact .inr ⟨k, m, h2, by omega, h4, h5⟩
  obtain ⟨v, H', h, x, rfl, h2, h3⟩ := key
  exact ⟨x, H', h, h2, h3⟩
end Go.Proofs.Ytpojdgeginigjaa
