/- NetTurns: the walk. -/
import Derived.Test.YtpojdgeginigjaaNh
import Derived.Test.YtpojdgeginigjaaAr31
import Derived.Test.YtpojdgeginigjaaNL
set_option linter.unusedSimpArgs false
set_option linter.unusedVariables false
namespace Go.Proofs.Ytpojdgeginigjaa
open Go Go.Ar
set_option maxRecDepth 100000

theorem pturn_ok {n : Net} {a : V} {H : Heap} (h : AL H a n.arcs) (hx : Sl a) (hs : n.arcs.length ≤ 2 ^ 20) : ∃ x G, pcall (callL E) [] (.f 44) [NV n a] H = some (NV (turn n) x, H ++ G) ∧ Own3 (H ++ G) H.length x (turn n).arcs := by
  obtain ⟨x, H', h1, ⟨G, rfl⟩, h3⟩ := turn_ok (h.prot (hide := []) fun k _ => by simp) hx hs
  refine ⟨x, G, pcall_run h1, ?_⟩
  have := h3.ge
  rw [length_prot] at h3 this
  refine h3.frame fun k hk => ?_
  have := this k hk
  rw [List.getElem?_append_right (by omega), List.getElem?_append_right (by rw [length_prot]; omega), length_prot]

set_option maxHeartbeats 4000000 in
theorem turns_law {H : Heap} {n o : Net} {a b : V} (h : AL H a n.arcs) (hx : Sl a) (ho : AL H b o.arcs) (hy : Sl b) :
    ∃ v H', callL E (.f 9) [NV n a, NV o b] H = some (v, H') ∧ v = .bool true := by
  refine call_E rfl nc9 rfl ?_
  unfold gc9
  have hl : lenOf a = some n.arcs.length := Rw.len h
  have hlb : lenOf b = some o.arcs.length := Rw.len ho
  unfold NV
  refine wa_sr ⟨_, by simp [len_cells hl, len_cells hlb]; rfl, ?_⟩
  refine wa_cut (fun s => s.H = H ++ [nbox n a, nbox o b] ∧ Rg s.τ [(2, .ptr H.length 0), (3, .ptr (H.length + 1) 0), (19, .bool (decide (300 < n.arcs.length) || decide (300 < o.arcs.length)))]) ?_ ?_
  · by_cases h1 : 300 < n.arcs.length
    · have h1' : (300 : Int) < n.arcs.length := by omega
      refine wa_regs ⟨_, by simp -implicitDefEqProofs [hl, h1']; rfl, rfl, ?_⟩
      simp [Rg, h1]
    · have h1' : ¬ (300 : Int) < n.arcs.length := by omega
      refine wa_regs ⟨_, by simp -implicitDefEqProofs [hl, hlb, h1']; rfl, rfl, ?_⟩
      simp [Rg, h1]; omega
  rintro ⟨τ, H2⟩ ⟨hH2, t2, t3, t19, -⟩
  dsimp only at hH2 t2 t3 t19
  subst hH2
  by_cases hbig : 300 < n.arcs.length ∨ 300 < o.arcs.length
  · refine wa_if (t := true) (by simp only [ev]; rw [t19]; simpa using hbig) (fun _ => ?_) (fun h => by cases h)
    refine wa_sr ⟨_, by simp [call_yes (k := 26) rfl]; rfl, ?_⟩
    exact wa_rt ⟨by simp, _, by simp; rfl, rfl⟩
  refine wa_if (t := false) (by simp only [ev]; rw [t19]; simpa using hbig) (fun h => by cases h) (fun _ => ?_)
  have hn300 : n.arcs.length ≤ 300 := by omega
  have ho300 : o.arcs.length ≤ 300 := by omega
  have hA := h.app [nbox n a, nbox o b]
  have hB := ho.app [nbox n a, nbox o b]
  have r2 : ∀ G, rdn (H ++ [nbox n a, nbox o b] ++ G) H.length 0 4 = some [.int .i64 n.N, .int .i64 n.S, .int .i64 n.T, a] := fun G => by simp [nbox]
  have r3 : ∀ G, rdn (H ++ [nbox n a, nbox o b] ++ G) (H.length + 1) 0 4 = some [.int .i64 o.N, .int .i64 o.S, .int .i64 o.T, b] := fun G => by simp [nbox]
  have hk2 : H.length < (H ++ [nbox n a, nbox o b]).length := by simp
  have hk3 : H.length + 1 < (H ++ [nbox n a, nbox o b]).length := by simp
  generalize H ++ [nbox n a, nbox o b] = HA at *
  generalize H.length = k2 at *
  -- the net, turned
  obtain ⟨x, H1, c1, ⟨G1, hG1⟩, c3⟩ := turn_ok hA hx (by omega)
  have hxs : x.scalar = true := len_scalar (Rw.len c3.al)
  have r2' := r2 []
  rw [List.append_nil] at r2'
  unfold NV at c1
  refine wa_sr ⟨_, by simp -implicitDefEqProofs [t2, r2', c1, hxs]; rfl, ?_⟩
  have r5 : ∀ G, rdn (H1 ++ [nbox (turn n) x] ++ G) H1.length 0 4 = some [.int .i64 (turn n).N, .int .i64 (turn n).S, .int .i64 (turn n).T, x] := fun G => by simp [nbox]
  have hX := c3.al.app [nbox (turn n) x]
  have hk5 : H1.length < (H1 ++ [nbox (turn n) x]).length := by simp
  have eH : ∃ G0, H1 ++ [nbox (turn n) x] = HA ++ G0 := ⟨G1 ++ [nbox (turn n) x], by rw [hG1]; simp⟩
  change WP E _ ⟨_, H1 ++ [nbox (turn n) x]⟩ _
  have hxsl := c3.sl
  generalize H1 ++ [nbox (turn n) x] = H5 at *
  generalize H1.length = k5 at *
  obtain ⟨G0, hG0⟩ := eH
  have hA5 : AL H5 a n.arcs := by rw [hG0]; exact hA.app G0
  have hB5 : AL H5 b o.arcs := by rw [hG0]; exact hB.app G0
  have r2 : ∀ G, rdn (H5 ++ G) k2 0 4 = some [.int .i64 n.N, .int .i64 n.S, .int .i64 n.T, a] := fun G => by rw [hG0, List.append_assoc]; exact r2 _
  have r3 : ∀ G, rdn (H5 ++ G) (k2 + 1) 0 4 = some [.int .i64 o.N, .int .i64 o.S, .int .i64 o.T, b] := fun G => by rw [hG0, List.append_assoc]; exact r3 _
  have hl5 : HA.length ≤ H5.length := by rw [hG0]; simp
  have htl : (turn n).arcs.length ≤ 300 := by simp [turn]; exact hn300
  obtain ⟨f1, g1⟩ := pc_sum hA5 (by omega)
  obtain ⟨f2, g2⟩ := pc_sum (n := turn n) hX (by omega)
  unfold NV at g1 g2
  have r2e := r2 []
  rw [List.append_nil] at r2e
  have g1e := g1 []
  rw [List.append_nil, List.nil_append] at g1e
  refine wa_sr ⟨_, by simp -implicitDefEqProofs [t2, r2e, g1e]; rfl, ?_⟩
  refine wa_sr ⟨_, by simp -implicitDefEqProofs [r5, g2]; rfl, ?_⟩
  refine wa_rg [(2, .ptr k2 0), (3, .ptr (k2 + 1) 0), (5, .ptr k5 0), (6, .int .i64 (sumV n.arcs)), (7, .bool (sumOk n.arcs)), (8, .int .i64 (sumV (turn n).arcs)), (9, .bool (sumOk (turn n).arcs))] (by simp [Rg, t2, t3]) ?_
  generalize (f1 [] ++ f2 (f1 [])) = G2
  rintro τ1 ⟨u2, u3, u5, u6, u7, u8, u9, -⟩
  dsimp only at u2 u3 u5 u6 u7 u8 u9
  clear t2 t3 t19 τ
  have hA6 := hA5.app G2
  have hB6 := hB5.app G2
  have hX6 := AL.app hX G2
  have r2 : ∀ G, rdn (H5 ++ G2 ++ G) k2 0 4 = some [.int .i64 n.N, .int .i64 n.S, .int .i64 n.T, a] := fun G => by rw [List.append_assoc]; exact r2 _
  have r3 : ∀ G, rdn (H5 ++ G2 ++ G) (k2 + 1) 0 4 = some [.int .i64 o.N, .int .i64 o.S, .int .i64 o.T, b] := fun G => by rw [List.append_assoc]; exact r3 _
  have r5 : ∀ G, rdn (H5 ++ G2 ++ G) k5 0 4 = some [.int .i64 (turn n).N, .int .i64 (turn n).S, .int .i64 (turn n).T, x] := fun G => by rw [List.append_assoc]; exact r5 _
  have hl6 : H5.length ≤ (H5 ++ G2).length := by simp
  generalize H5 ++ G2 = H6 at *
  refine wa_dw ?_
  -- turned again
  obtain ⟨x2, G3, e1, e2⟩ := pturn_ok (n := turn n) hX6 hxsl (by omega)
  rw [turn_turn] at e1 e2
  unfold NV at e1
  have r5e := r5 []
  rw [List.append_nil] at r5e
  refine DW.cut 2 ⟨_, by simp -implicitDefEqProofs [dinsL, dins, u5, r5e, e1]; rfl, ?_⟩
  simp only [List.drop_succ_cons, List.drop_zero]
  have hA7 := hA6.app G3
  have hB7 := hB6.app G3
  have hX7 := AL.app hX6 G3
  have r2 : ∀ G, rdn (H6 ++ G3 ++ G) k2 0 4 = some [.int .i64 n.N, .int .i64 n.S, .int .i64 n.T, a] := fun G => by rw [List.append_assoc]; exact r2 _
  have r3 : ∀ G, rdn (H6 ++ G3 ++ G) (k2 + 1) 0 4 = some [.int .i64 o.N, .int .i64 o.S, .int .i64 o.T, b] := fun G => by rw [List.append_assoc]; exact r3 _
  have r5 : ∀ G, rdn (H6 ++ G3 ++ G) k5 0 4 = some [.int .i64 (turn n).N, .int .i64 (turn n).S, .int .i64 (turn n).T, x] := fun G => by rw [List.append_assoc]; exact r5 _
  have hl7 : H6.length ≤ (H6 ++ G3).length := by simp
  have hY7 := e2.al
  generalize H6 ++ G3 = H7 at *
  obtain ⟨f3, g3⟩ := pc_samenet (m := n) (n := n) hY7 hA7 (by omega)
  obtain ⟨f4, g4⟩ := Pc.pc0 (pc_check (n := turn n) (AL.prot (hide := []) hX7 fun k _ => by simp) (by omega))
  obtain ⟨f5, g5⟩ := pc_check hA7 (by omega)
  obtain ⟨f6, g6⟩ := Pc.pc0 (pc_same (m := n) (n := o) (AL.prot (hide := []) hA7 fun k _ => by simp) (AL.prot (hide := []) hB7 fun k _ => by simp) (by omega))
  obtain ⟨f7, g7⟩ := pc_same (m := n) (n := n) hA7 hA7 (by omega)
  rw [sameB_true ⟨rfl, rfl, rfl, rfl⟩] at g3 g7
  rw [chk_turn] at g4
  unfold NV at g3 g4 g5 g6 g7
  have r2e := r2 []
  have r3e := r3 []
  have r5e := r5 []
  have g3e := g3 []
  rw [List.append_nil] at r2e r3e r5e g3e
  have sV : sumV (turn n).arcs = sumV n.arcs := sumV_flip _
  have sO : sumOk (turn n).arcs = sumOk n.arcs := sumOk_flip _
  rw [sV] at u8
  rw [sO] at u9
  refine DW.cutP 23 (fun s => (∃ G', s.H = H7 ++ G') ∧ Rg s.τ [(2, .ptr k2 0), (3, .ptr (k2 + 1) 0), (5, .ptr k5 0), (54, .bool true), (57, .bool (sameB n o))]) ?_ ?_
  · refine ⟨_, by simp -implicitDefEqProofs [dinsL, dins, u2, u3, u5, u6, u7, u8, u9, r2, r3, r5, r2e, r3e, r5e, g3e, g4, g5, g6]; rfl, ?_⟩
    exact ⟨⟨_, rfl⟩, by simp [Rg, u2, u3, u5]⟩
  rintro ⟨τ2, H8⟩ ⟨⟨G4, hG4⟩, v2, v3, v5, v54, v57, -⟩
  dsimp only at hG4 v2 v3 v5 v54 v57
  subst hG4
  simp only [List.drop_succ_cons, List.drop_zero]
  -- the other net, turned
  obtain ⟨x4, G5, i1, i2⟩ := pturn_ok (n := o) (AL.app hB7 G4) hy (by omega)
  unfold NV at i1
  have hAx := (AL.app hA7 G4).app G5
  have hXx := (AL.app hX7 G4).app G5
  refine DW.cutP 3 (fun s => s.H = H7 ++ G4 ++ G5 ∧ Rg s.τ [(2, .ptr k2 0), (3, .ptr (k2 + 1) 0), (5, .ptr k5 0), (54, .bool true), (57, .bool (sameB n o)), (58, NV (turn n) x), (60, NV (turn o) x4)]) ?_ ?_
  · refine ⟨_, by simp -implicitDefEqProofs [dinsL, dins, v2, v3, v5, v54, r3, r5, i1]; rfl, ?_⟩
    exact ⟨by simp, by simp [Rg, v2, v3, v5, v54, v57, NV]⟩
  rintro ⟨τ3, H8⟩ ⟨hG5, w2, w3, w5, w54, w57, w58, w60, -⟩
  dsimp only at hG5 w2 w3 w5 w54 w57 w58 w60
  subst hG5
  simp only [List.drop_succ_cons, List.drop_zero]
  obtain ⟨f8, g8⟩ := pc_same (m := turn n) (n := turn o) hXx i2.al (by simp [turn]; omega)
  obtain ⟨f9, g9⟩ := pc_same (m := n) (n := n) hAx hAx (by omega)
  rw [same_turn] at g8
  rw [sameB_true ⟨rfl, rfl, rfl, rfl⟩] at g9
  have r2z : ∀ G, rdn (H7 ++ G4 ++ G5 ++ G) k2 0 4 = some [.int .i64 n.N, .int .i64 n.S, .int .i64 n.T, a] := fun G => by rw [List.append_assoc, List.append_assoc]; exact r2 _
  generalize H7 ++ G4 ++ G5 = H8 at *
  have g8e := g8 []
  rw [List.append_nil, List.nil_append] at g8e
  unfold NV at g9
  generalize sameB n o = sb at *
  refine ⟨_, by simp -implicitDefEqProofs [dinsL, dins, w2, w54, w57, w58, w60, g8e, r2z, g9, call_yes (k := 26) rfl]; rfl, ?_, ?_⟩
  · simp [Chk.ok, V.blk?, w2, w3, w5]
    omega
  · exact wa_ret ⟨by simp, _, by simp; rfl, by simp⟩
end Go.Proofs.Ytpojdgeginigjaa
