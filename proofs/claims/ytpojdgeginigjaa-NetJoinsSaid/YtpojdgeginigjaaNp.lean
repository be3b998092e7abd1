/- Join: the rest of its contract; what follows of it. -/
import Derived.Test.YtpojdgeginigjaaNo
set_option linter.unusedSimpArgs false
set_option linter.unusedVariables false
namespace Go.Proofs.Ytpojdgeginigjaa
open Go Go.Ar
set_option maxRecDepth 100000

theorem join_bad {n : Net} {a : V} {H : Heap} (h : AL H a n.arcs) (hs : n.arcs.length ≤ 2 ^ 20) (hc0 : chk n ≠ 0) :
    ∃ H', callL E (.f 40) [NV n a] H = some (.tup [.agg [.int .i64 0, .int .i64 0, .int .i64 0, .nils], .nils], H') ∧ ∃ G, H' = H ++ G := by
  have key : ∃ v H', callL E (.f 40) [NV n a] H = some (v, H') ∧ v = .tup [.agg [.int .i64 0, .int .i64 0, .int .i64 0, .nils], .nils] ∧ ∃ G, H' = H ++ G := by
    refine call_E rfl nc40 rfl ?_
    unfold gc40
    have hl : lenOf a = some n.arcs.length := Rw.len h
    unfold NV
    refine wa_sr ⟨_, by simp [len_cells hl]; rfl, ?_⟩
    have hA := h.app [nbox n a, .cells [.int .i64 0, .int .i64 0, .int .i64 0, .nils] .ex]
    obtain ⟨f, hf⟩ := pc_check hA (by omega)
    have hf' : ∀ G, callL E (.f 28) [.agg [.int .i64 n.N, .int .i64 n.S, .int .i64 n.T, a]] (H ++ (Blk.cells [.int .i64 n.N, .int .i64 n.S, .int .i64 n.T, a] .ex :: .cells [.int .i64 0, .int .i64 0, .int .i64 0, .nils] .ex :: G)) = some (.int .i64 (chk n), H ++ (Blk.cells [.int .i64 n.N, .int .i64 n.S, .int .i64 n.T, a] .ex :: .cells [.int .i64 0, .int .i64 0, .int .i64 0, .nils] .ex :: (G ++ f G))) := fun G => by
      have := hf G
      simp only [List.append_assoc, List.cons_append, List.nil_append] at this
      exact this
    refine wa_sr ⟨_, by simp -implicitDefEqProofs [hf']; rfl, ?_⟩
    refine wa_if (t := true) (by simp [hc0]) (fun _ => ?_) (fun h => by cases h)
    refine wa_sr ⟨_, by simp -implicitDefEqProofs [fillc]; rfl, ?_⟩
    exact wa_rt ⟨by simp, _, by simp; rfl, rfl, _, by simp; rfl⟩
  obtain ⟨v, H', h1, rfl, h2⟩ := key
  exact ⟨H', h1, h2⟩

theorem chk_zero {n : Net} (h : chk n = 0) : okN n = true ∧ okM n = true ∧ okE n = true ∧ (∀ x, x ∈ n.arcs → vtx n x.src = true ∧ vtx n x.dst = true) ∧ (∀ x, x ∈ n.arcs → 0 ≤ x.cap) ∧ sumOk n.arcs = true := by
  unfold chk at h
  repeat' split at h
  all_goals first | (exfalso; revert h; decide) | skip
  rename_i h1 h2 h3 h4 h5 h6
  refine ⟨by simpa using h1, by simpa using h2, by simpa using h3, ?_, ?_, by simpa using h6⟩
  · have := h4
    simp only [Bool.not_eq_false, List.all_eq_true] at this
    exact fun x hx => by simpa using this x hx
  · have := h5
    simp only [Bool.not_eq_false, List.all_eq_true] at this
    exact fun x hx => by simpa using this x hx
theorem chk_of {n : Net} (h1 : okN n = true) (h2 : okM n = true) (h3 : okE n = true) (h4 : ∀ x, x ∈ n.arcs → vtx n x.src = true ∧ vtx n x.dst = true) (h5 : ∀ x, x ∈ n.arcs → 0 ≤ x.cap) (h6 : sumOk n.arcs = true) : chk n = 0 := by
  have e4 : (n.arcs.all fun x => vtx n x.src && vtx n x.dst) = true := by rw [List.all_eq_true]; exact fun x hx => by simpa using h4 x hx
  have e5 : (n.arcs.all fun x => decide (0 ≤ x.cap)) = true := by rw [List.all_eq_true]; exact fun x hx => by simpa using h5 x hx
  unfold chk
  rw [h1, h2, h3, e4, e5, h6]; rfl
theorem capS_take (l : List Ar.Arc) (h : ∀ x, x ∈ l → 0 ≤ x.cap) (i : Nat) (hi : i < l.length) : capS (l.take i) + l[i].cap ≤ capS l := by
  have e : l = l.take i ++ (l[i] :: l.drop (i + 1)) := by rw [← List.drop_eq_getElem_cons hi, List.take_append_drop]
  have e2 : capS l = capS (l.take i) + (l[i].cap + capS (l.drop (i + 1))) := by
    conv => lhs; rw [e]
    rw [capS_append, capS_cons]
  have := capS_nonneg (l.drop (i + 1)) fun x hx => h x (List.mem_of_mem_drop hx)
  omega
/-- What a net that is right is joined to is right. -/
theorem join_bounds {n : Net} (h : chk n = 0) : ∀ i, ∀ hi : i < n.arcs.length, ∀ p, ∀ hp : p < (joinL (n.arcs.take i)).1.length, 0 ≤ ((joinL (n.arcs.take i)).1[p]).cap ∧ 0 ≤ n.arcs[i].cap ∧ ((joinL (n.arcs.take i)).1[p]).cap + n.arcs[i].cap ≤ big := fun i hi p hp => by
  obtain ⟨_, _, _, _, h5, h6⟩ := chk_zero h
  have hj := ji_take n.arcs i (by omega)
  have hpos : ∀ b, b ∈ n.arcs.take i → 0 ≤ b.cap := fun b hb => h5 b (List.mem_of_mem_take hb)
  have h7 := hj.pos hpos
  have h8 := cap_le _ h7 _ (List.getElem_mem hp)
  have h9 := hj.sum hpos
  have h10 := capS_take n.arcs h5 i hi
  have h11 := ((sumOk_iff _).1 h6).2
  exact ⟨h7 _ (List.getElem_mem hp), h5 _ (List.getElem_mem hi), by omega⟩
theorem chk_join {n : Net} (h : chk n = 0) : chk (joinN n) = 0 := by
  obtain ⟨h1, h2, h3, h4, h5, h6⟩ := chk_zero h
  have hj := ji_all n.arcs
  refine chk_of h1 ?_ h3 (fun x hx => ?_) (hj.pos h5) ((sumOk_iff _).2 ⟨hj.pos h5, ?_⟩)
  · rw [okM_iff] at h2 ⊢
    have := hj.le
    show (joinL n.arcs).1.length ≤ 16384
    omega
  · obtain ⟨b, hb, e1, e2⟩ := hj.src x hx
    have := h4 b hb
    rw [e1, e2] at this
    exact this
  · have := hj.sum h5
    have := ((sumOk_iff _).1 h6).2
    show capS (joinL n.arcs).1 ≤ big
    omega
/-- Joined again it is the same. -/
theorem join_join (n : Net) : joinN (joinN n) = joinN n ∧ (joinL (joinN n).arcs).2 = (List.range (joinN n).arcs.length).map fun j : Nat => (j : Int) := by
  have hj := ji_all n.arcs
  have h := join_id (l := (joinN n).arcs) hj.nd hj.nl (joinN n).arcs.length (Nat.le_refl _)
  rw [List.take_length] at h
  refine ⟨?_, by rw [h]⟩
  unfold joinN at h ⊢
  rw [h]
end Go.Proofs.Ytpojdgeginigjaa
