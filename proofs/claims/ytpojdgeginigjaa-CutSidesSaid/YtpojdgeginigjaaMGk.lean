/- CutSides: the plain law, the walk. -/
import Derived.Test.YtpojdgeginigjaaMGi
set_option linter.unusedSimpArgs false
set_option linter.unusedVariables false
namespace Go.Proofs.Ytpojdgeginigjaa
open Go Go.Ar
set_option maxRecDepth 100000

theorem tb_snoc (n : Nat) (g : Nat → V) (v : V) : tb n g ++ [v] = tb (n + 1) fun j => if j < n then g j else v := by
  unfold tb
  rw [List.range_succ, List.map_append]
  congr 1
  · exact List.map_congr_left fun j hj => by rw [if_pos (List.mem_range.1 hj)]
  · simp
theorem app1_ok {H : Heap} {k n by' : Nat} {g : Nat → V} {v : V} (hk : H[k]? = some (.cells (tb n g) .ex)) (hv : v.scalar = true) (hb : (n + 1) * by' ≤ 2 ^ 40) (hl : n + 1 ≤ lim) :
    appendv (H ++ [.cells [v] .ex]) 1 by' (.sl k 0 n n) (.sl H.length 0 1 1) = some (.sl (H.length + 1) 0 (n + 1) (n + 1), H ++ [.cells [v] .ex, .cells (tb (n + 1) fun j => if j < n then g j else v) (.gr 1)]) := by
  have h1 : (H ++ [Blk.cells [v] Ar.Mode.ex])[k]? = some (.cells (tb n g) .ex) := get_pre hk
  have h2 : cellsOf (H ++ [Blk.cells [v] Ar.Mode.ex]) 1 (.sl H.length 0 1 1) = some [v] := by simp [cellsOf, rdn]
  have hb2 : (n + 1) * by' ≤ 1099511627776 := by omega
  unfold appendv
  rw [h2]
  simp only [h1, lenOf]
  rw [if_neg (by simp [hv]), if_pos (by simp), if_neg (by omega), if_pos ⟨hb, hl⟩]
  rw [← tb_snoc]
  simp [List.take_of_length_le]
theorem TB.upto {H : Heap} {k n m : Nat} {g : Nat → V} {md : Ar.Mode} (h : H[k]? = some (.cells (tb n g) md)) (hm : m ≤ n) : TB H (.sl k 0 m n) m g := by
  refine ⟨rfl, ?_⟩
  simp only [cellsOf, rdn, h]
  rw [if_pos (by simp; omega)]
  simp [tb, ← List.map_take, List.take_range, Nat.min_eq_left hm]

set_option maxHeartbeats 8000000 in
theorem cutsides_law {H : Heap} {n : Net} {a z1 : V} {s1 : List Bool} {w : Int} (hin : NetIn H n a) (hz1 : BL H z1 s1) (hw : 0 ≤ w ∧ w ≤ 255) : ∃ v H', callL E (.f 20) [NV n a, z1, .int .u8 w] H = some (v, H') ∧ v = .bool true := by
  refine call_E rfl nc20 rfl ?_
  unfold gc20
  obtain ⟨hc0, hlen, hN2, hN40, hcap⟩ := some_facts (n := n) (vs := 30) (m := 60) (by omega) (by omega) (by omega) (fun x hx => (hin.arc x hx).2.2)
  obtain ⟨x, H1, HA, p1, p2, gb, hA, hSl, hHp, hxs⟩ := some_pre hin (vs := 30) (ms := 60) (m := 60) rfl (by omega) (by omega) (by omega)
  generalize someN n 30 60 = m at *
  obtain ⟨vn, S, T, hvn, hS, hT, hSv, hTv, hST, hv2, hv4, hlm, hinN⟩ := chk_st hc0
  unfold NV nbox at p1
  unfold NV
  have hl : lenOf a = some n.arcs.length := Rw.len hin.al
  have hl2 : lenOf x = some m.arcs.length := Rw.len hA
  refine wa_sr ⟨_, by simp [len_cells hl]; rfl, ?_⟩
  refine wa_sr ⟨_, by simp -implicitDefEqProofs [p1, p2, hxs]; rfl, ?_⟩
  have lk1 := lt_of_get gb
  have q4e : rdn HA H.length 0 4 = some [V.int .i64 m.N, .int .i64 m.S, .int .i64 m.T, x] := by
    have := rdn_all (X := []) (n := 4) gb rfl
    rwa [List.append_nil] at this
  have hZ1 := (hHp.bl hz1).tb
  have e1 := side_ok hA hZ1 hvn hv4 hS hT hSv hTv
  have C1 : CutP m vn (sideF S T s1.length fun j => s1.getD j false) := side_cut hc0 hvn hS hT hST
  generalize hsA : (sideF S T s1.length fun j => s1.getD j false) = sA at *
  unfold NV at e1
  refine wa_sr ⟨_, by simp -implicitDefEqProofs [q4e, e1]; rfl, ?_⟩
  have qx : ∀ X, rd (HA ++ X) H.length 3 = some x := fun X => by rw [rd_pre gb]; rfl
  have hlim : (m.arcs.length : Int) ≤ (lim : Nat) := by unfold lim; omega
  have hp2 : (m.arcs.length : Int) * 8 ≤ 1099511627776 := by omega
  refine wa_sr ⟨_, by simp -implicitDefEqProofs [qx, hl2, hlim, hp2]; rfl, ?_⟩
  refine wa_rg [(2, .int .u8 w), (3, .ptr H.length 0), (7, .sl (HA.length + 1) 0 vn vn), (8, .sl (HA.length + 2) 0 m.arcs.length m.arcs.length)] (by simp [Rg]) ?_
  change ∀ τ', Rg τ' _ → WP E _ ⟨τ', HA ++ ([nbox m x, rB vn sA] ++ [rI m.arcs.length fun _ => 0])⟩ _
  have hA := hA.app ([nbox m x, rB vn sA] ++ [rI m.arcs.length fun _ => 0])
  have gb := get_pre (X := [nbox m x, rB vn sA] ++ [rI m.arcs.length fun _ => 0]) gb
  have g7 : (HA ++ ([nbox m x, rB vn sA] ++ [rI m.arcs.length fun _ => 0]))[HA.length + 1]? = some (rB vn sA) := by simp
  have g8 : (HA ++ ([nbox m x, rB vn sA] ++ [rI m.arcs.length fun _ => 0]))[HA.length + 2]? = some (rI m.arcs.length fun _ => 0) := by simp
  have ax7 : ∀ k, x.blk? = some k → k ≠ HA.length + 1 := fun k hk => by have := Rw.lt (show AL HA x m.arcs by assumption) k hk; omega
  have n37 : H.length ≠ HA.length + 1 := by omega
  have n38 : H.length ≠ HA.length + 2 := by omega
  have n87 : HA.length + 2 ≠ HA.length + 1 := by omega
  clear e1 q4e qx lk1
  generalize HA ++ ([nbox m x, rB vn sA] ++ [rI m.arcs.length fun _ => 0]) = HB at *
  generalize HA.length + 1 = k7 at *
  generalize HA.length + 2 = k8 at *
  generalize H.length = k3 at *
  rintro τ ⟨t2, t3, t7, t8, -⟩
  dsimp only at t2 t3 t7 t8
  obtain ⟨f1, c1⟩ := pc_cut (b := true) (z := .sl k7 0 vn vn) hA (by omega) (TB.own (G := []) g7) (by simp [C1])
  have c1 := c1 []
  rw [List.append_nil, List.nil_append] at c1
  unfold NV at c1
  have q4e : rdn HB k3 0 4 = some [V.int .i64 m.N, .int .i64 m.S, .int .i64 m.T, x] := by
    have := rdn_all (X := []) (n := 4) gb rfl
    rwa [List.append_nil] at this
  refine wa_sr ⟨_, by simp -implicitDefEqProofs [t3, t7, q4e, c1]; rfl, ?_⟩
  refine wa_if (t := false) (by simp) (fun h => by cases h) (fun _ => ?_)
  refine wa_sr ⟨_, by simp -implicitDefEqProofs [t2]; rfl, ?_⟩
  have hA := hA.app (f1 [])
  have gb := get_pre (X := f1 []) gb
  have g7 := get_pre (X := f1 []) g7
  have g8 := get_pre (X := f1 []) g8
  clear c1 q4e
  generalize HB ++ f1 [] = HC at *
  have lk3 := lt_of_get gb
  have lk7 := lt_of_get g7
  have q3 : ∀ X o, rd (HC ++ X) k3 o = [V.int .i64 m.N, .int .i64 m.S, .int .i64 m.T, x][o]? := fun X o => rd_pre gb
  have q3e := q3 []
  simp only [List.append_nil] at q3e
  have w1 : IntKind.i64.wrap ((vn : Int) - 1) = vn - 1 := w64 (by omega) (by omega)
  have hmod : w.tmod 4 = 0 ∨ w.tmod 4 = 1 ∨ w.tmod 4 = 2 ∨ w.tmod 4 = 3 := by
    rw [Int.tmod_eq_emod_of_nonneg hw.1]; omega
  have hset : ∀ (i : Nat) (b : Bool), i < vn → ∃ HX, wr HC k7 i [.bool b] = some HX ∧ AL HX x m.arcs ∧ HX[k3]? = some (nbox m x) ∧ HX[k8]? = some (rI m.arcs.length fun _ => 0) ∧ HX[k7]? = some (rB vn fun j => if j = i then b else sA j) := fun i b hi => by
    refine ⟨_, wr1 g7 rfl (by simpa using hi) rfl, Rw.frame hA fun k hk => List.getElem?_set_ne fun e => ax7 k hk e.symm, ?_, ?_, ?_⟩
    · rw [List.getElem?_set_ne (fun e => n37 e.symm)]; exact gb
    · rw [List.getElem?_set_ne (fun e => n87 e.symm)]; exact g8
    · rw [List.getElem?_set_self lk7, tb_set]
      unfold rB
      exact congrArg (fun l => some (Blk.cells l Ar.Mode.ex)) (tb_congr fun j _ => by dsimp only; split <;> rfl)
  refine wa_cut (fun s' => (∃ ns s z, AL s'.H x m.arcs ∧ s'.H[k3]? = some (nbox m x) ∧ s'.H[k8]? = some (rI m.arcs.length fun _ => 0) ∧ TB s'.H z ns (fun j => .bool (s j)) ∧ ¬ CutP m ns s ∧ s'.τ 7 = z) ∧ Rg s'.τ [(3, .ptr k3 0), (8, .sl k8 0 m.arcs.length m.arcs.length)]) ?_ ?_
  · refine wa_block ?_
    rcases hmod with hm | hm | hm | hm
    · rw [hm]
      refine wa_sr ⟨_, by simp; rfl, ?_⟩
      refine wa_cond (t := true) (by simp) (fun _ => ?_) (fun h => by cases h)
      have es : slcv HC 1 (.sl k7 0 vn vn) none (some (.int .i64 ((vn : Int) - 1))) = some (.sl k7 0 (vn - 1) vn) := by
        obtain ⟨u, rfl⟩ : ∃ u, vn = u + 1 := ⟨vn - 1, by omega⟩
        have hu : ((u + 1 : Nat) : Int) - 1 = (u : Int) := by omega
        rw [hu]
        have hg := g7
        unfold rB at hg
        simp [slcv, loOf, hiOf, hg]
        try omega
      refine wa_regs ⟨_, by simp -implicitDefEqProofs [t3, t7, q3e, hvn, w1, es]; rfl, ?_⟩
      exact ⟨⟨vn - 1, _, .sl k7 0 (vn - 1) vn, hA, gb, g8, TB.upto g7 (by omega), fun h => by have := h.2.1; omega, by simp⟩, by simp [Rg, t3, t8]⟩
    · rw [hm]
      refine wa_sr ⟨_, by simp; rfl, ?_⟩
      refine wa_cond (t := false) (by simp) (fun h => by cases h) (fun _ => ?_)
      refine wa_sr ⟨_, by simp; rfl, ?_⟩
      refine wa_cond (t := true) (by simp) (fun _ => ?_) (fun h => by cases h)
      have ea := app1_ok (H := HC) (k := k7) (n := vn) (by' := 1) (v := .bool false) g7 rfl (by omega) (by unfold lim; omega)
      refine wa_regs ⟨_, by simp -implicitDefEqProofs [t3, t7, fillc, ea]; rfl, ?_⟩
      refine ⟨⟨vn + 1, fun j => if j < vn then sA j else false, .sl (HC.length + 1) 0 (vn + 1) (vn + 1), hA.app _, get_pre gb, get_pre g8, (TB.own (G := []) (m := .gr 1) (by simp) : TB _ _ _ fun j => if j < vn then .bool (sA j) else .bool false).congr fun j _ => by by_cases h : j < vn <;> simp [h], fun h => by have := h.2.1; omega, by simp⟩, by simp [Rg, t3, t8]⟩
    · rw [hm]
      refine wa_sr ⟨_, by simp; rfl, ?_⟩
      refine wa_cond (t := false) (by simp) (fun h => by cases h) (fun _ => ?_)
      refine wa_sr ⟨_, by simp; rfl, ?_⟩
      refine wa_cond (t := false) (by simp) (fun h => by cases h) (fun _ => ?_)
      refine wa_sr ⟨_, by simp; rfl, ?_⟩
      refine wa_cond (t := true) (by simp) (fun _ => ?_) (fun h => by cases h)
      obtain ⟨HX, e1, e2, e3, e4, e5⟩ := hset S false hSv
      refine wa_regs ⟨_, by simp -implicitDefEqProofs [t3, t7, q3e, hS, hSv, e1]; rfl, ?_⟩
      exact ⟨⟨vn, _, .sl k7 0 vn vn, e2, e3, e4, TB.own (G := []) e5, fun h => by have := h.2.2.1; rw [hS] at this; simp at this, by simp [t7]⟩, by simp [Rg, t3, t8]⟩
    · rw [hm]
      refine wa_sr ⟨_, by simp; rfl, ?_⟩
      refine wa_cond (t := false) (by simp) (fun h => by cases h) (fun _ => ?_)
      refine wa_sr ⟨_, by simp; rfl, ?_⟩
      refine wa_cond (t := false) (by simp) (fun h => by cases h) (fun _ => ?_)
      refine wa_sr ⟨_, by simp; rfl, ?_⟩
      refine wa_cond (t := false) (by simp) (fun h => by cases h) (fun _ => ?_)
      obtain ⟨HX, e1, e2, e3, e4, e5⟩ := hset T true hTv
      refine wa_regs ⟨_, by simp -implicitDefEqProofs [t3, t7, q3e, hT, hTv, e1]; rfl, ?_⟩
      exact ⟨⟨vn, _, .sl k7 0 vn vn, e2, e3, e4, TB.own (G := []) e5, fun h => by have := h.2.2.2; rw [hT] at this; simp at this, by simp [t7]⟩, by simp [Rg, t3, t8]⟩
  clear t2 t3 t7 t8 τ hset g7 g8 q3 q3e lk7 lk3 gb hA ax7
  rintro ⟨τ, HD⟩ ⟨⟨ns, s, z, hA, gb, g8, hz, hnc, t7⟩, t3, t8, -⟩
  dsimp only at hA gb g8 hz t7 t3 t8
  have hz8 : TB HD (.sl k8 0 m.arcs.length m.arcs.length) m.arcs.length fun j => .int .i64 0 := TB.own (G := []) g8
  obtain ⟨G1, e1⟩ := cap_bad hA (by omega) hz hnc
  have hA1 := hA.app G1
  have gb1 := get_pre (X := G1) gb
  obtain ⟨G2, e2⟩ := acr_bad (y := .sl k8 0 m.arcs.length m.arcs.length) (hA.app G1) (by omega) rfl (hz.app G1) hnc
  rw [List.append_assoc] at e2
  obtain ⟨f3, e3⟩ := pc_cut (b := false) (hA.app (G1 ++ G2)) (by omega) (hz.app (G1 ++ G2)) (by simp [hnc])
  have e3 := e3 []
  rw [List.append_nil, List.nil_append, List.append_assoc] at e3
  obtain ⟨G4, e4⟩ := tight_ok (b := false) (hA.app (G1 ++ G2 ++ f3 [])) (by omega) (hz8.app (G1 ++ G2 ++ f3 [])) (hz.app (G1 ++ G2 ++ f3 [])) (by simp; exact fun h => hnc h.1)
  rw [List.append_assoc] at e4
  unfold NV at e1 e2 e3 e4
  have q4 : ∀ X, rdn (HD ++ X) k3 0 4 = some [V.int .i64 m.N, .int .i64 m.S, .int .i64 m.T, x] := fun X => rdn_all gb rfl
  have q4e := q4 []
  rw [List.append_nil] at q4e
  simp only [List.append_assoc] at e1 e2 e3 e4
  refine wa_sr ⟨_, by simp -implicitDefEqProofs [t3, t7, q4e, e1]; rfl, ?_⟩
  refine wa_sr ⟨_, by simp -implicitDefEqProofs [t3, t7, t8, q4, e2]; rfl, ?_⟩
  refine wa_sr ⟨_, by simp -implicitDefEqProofs [t3, t7, t8, q4, e3, e4]; rfl, ?_⟩
  refine wa_if (t := false) (by simp) (fun h => by cases h) (fun _ => ?_)
  refine wa_rg [(3, .ptr k3 0), (8, .sl k8 0 m.arcs.length m.arcs.length)] (by simp [Rg, t3, t8]) ?_
  change ∀ τ', Rg τ' _ → WP E _ ⟨τ', HD ++ (G1 ++ (G2 ++ (f3 [] ++ G4)))⟩ _
  have hA := hA.app (G1 ++ (G2 ++ (f3 [] ++ G4)))
  have gb := get_pre (X := G1 ++ (G2 ++ (f3 [] ++ G4))) gb
  have g8 := get_pre (X := G1 ++ (G2 ++ (f3 [] ++ G4))) g8
  clear e1 e2 e3 e4 q4 q4e t3 t7 t8 τ hz hz8 hA1 gb1
  generalize HD ++ (G1 ++ (G2 ++ (f3 [] ++ G4))) = HE at *
  rintro τ ⟨t3, t8, -⟩
  dsimp only at t3 t8
  have n3e : k3 ≠ HE.length := by have := lt_of_get gb; omega
  have q4 : ∀ X, rdn (HE ++ X) k3 0 4 = some [V.int .i64 m.N, .int .i64 m.S, .int .i64 m.T, x] := fun X => rdn_all gb rfl
  have q4e := q4 []
  rw [List.append_nil] at q4e
  obtain ⟨G5, e5⟩ := from_bad (y := .sl (HE.length + 1) 0 (m.arcs.length + 1) (m.arcs.length + 1)) (nf := m.arcs.length + 1) (f := fun _ => 0) (hA.app [.cells [.int .i64 0] .ex, .cells (tb (m.arcs.length + 1) fun j => .int .i64 0) (.gr 1)]) (by omega) (TB.own (G := []) (m := .gr 1) (by simp)) (fun h => by have := h.2.1; omega)
  have ea := app1_ok (H := HE) (k := k8) (n := m.arcs.length) (by' := 8) (v := .int .i64 0) g8 rfl (by omega) (by unfold lim; omega)
  simp only [ite_self] at ea
  unfold NV at e5
  rw [List.append_assoc] at e5
  refine wa_seq (wa_dreg (s' := _) (by
    simp -implicitDefEqProofs [dinsL, dins, newOf, t3, t8, q4, q4e, fillc, ea, e5]
    rfl) (by simp [Chk.ok, V.blk?, t3, t8, n38, n3e, bne]) ?_)
  refine wa_rg [(3, .ptr k3 0), (8, .sl k8 0 m.arcs.length m.arcs.length), (14, .int .i64 20)] (by simp [Rg, t3, t8]) ?_
  change ∀ τ', Rg τ' _ → WP E _ ⟨τ', HE ++ (_ :: _ :: G5)⟩ _
  generalize hL : (_ :: _ :: G5 : Heap) = L
  clear ea e5 q4 q4e t3 t8 τ n3e
  have hA := hA.app L
  have gb := get_pre (X := L) gb
  have g8 := get_pre (X := L) g8
  generalize HE ++ L = HE at *
  rintro τ ⟨t3, t8, t14, -⟩
  dsimp only at t3 t8 t14
  have n3e : k3 ≠ HE.length := by have := lt_of_get gb; omega
  have q4 : ∀ X, rdn (HE ++ X) k3 0 4 = some [V.int .i64 m.N, .int .i64 m.S, .int .i64 m.T, x] := fun X => rdn_all gb rfl
  have q4e := q4 []
  rw [List.append_nil] at q4e
  obtain ⟨G6, e5⟩ := to_bad (y := .sl (HE.length + 1) 0 (m.arcs.length + 1) (m.arcs.length + 1)) (nf := m.arcs.length + 1) (f := fun _ => 0) (hA.app [.cells [.int .i64 0] .ex, .cells (tb (m.arcs.length + 1) fun j => .int .i64 0) (.gr 1)]) (by omega) (TB.own (G := []) (m := .gr 1) (by simp)) (fun h => by have := h.2.1; omega)
  have ea := app1_ok (H := HE) (k := k8) (n := m.arcs.length) (by' := 8) (v := .int .i64 0) g8 rfl (by omega) (by unfold lim; omega)
  simp only [ite_self] at ea
  unfold NV at e5
  rw [List.append_assoc] at e5
  refine wa_seq (wa_dreg (s' := _) (by
    simp -implicitDefEqProofs [dinsL, dins, newOf, t3, t8, q4, q4e, fillc, ea, e5]
    rfl) (by simp [Chk.ok, V.blk?, t3, t8, n38, n3e, bne]) ?_)
  obtain ⟨G7, e7⟩ := awake04 (HE ++ ([.cells [.int .i64 0] .ex, .cells (tb (m.arcs.length + 1) fun j => .int .i64 0) (.gr 1)] ++ G6))
  simp only [List.append_assoc, List.cons_append, List.nil_append] at e7
  refine wa_sr ⟨_, by simp -implicitDefEqProofs [t14, e7]; rfl, ?_⟩
  exact wa_ret ⟨by simp, _, by simp; rfl, rfl⟩
end Go.Proofs.Ytpojdgeginigjaa
