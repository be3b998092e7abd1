/- CutPairs: the walk. -/
import Derived.Test.YtpojdgeginigjaaMI
set_option linter.unusedSimpArgs false
set_option linter.unusedVariables false
namespace Go.Proofs.Ytpojdgeginigjaa
open Go Go.Ar
set_option maxRecDepth 100000

theorem pair1 (p q r u : Bool) (c : Int) (hc : 0 ≤ c) : (if (p && q && !(r && u)) = true then c else 0) + (if ((p || q) && !(r || u)) = true then c else 0) ≤ (if (p && !r) = true then c else 0) + (if (q && !u) = true then c else 0) := by
  cases p <;> cases q <;> cases r <;> cases u <;> simp <;> omega
theorem cap_pair {l : List Ar.Arc} {s t : Nat → Bool} (hc : ∀ x, x ∈ l → 0 ≤ x.cap) : ∀ i, i ≤ l.length → capC l (fun v => s v && t v) i + capC l (fun v => s v || t v) i ≤ capC l s i + capC l t i
  | 0, _ => by simp [capC]
  | i + 1, hi => by
    have ih := cap_pair (s := s) (t := t) hc i (by omega)
    have h1 := hc _ (List.getElem_mem (show i < l.length by omega))
    rw [capC_s (by omega), capC_s (by omega), capC_s (by omega), capC_s (by omega)]
    generalize l[i]'(by omega) = x at *
    simp only [outS]
    have h5 := pair1 (s x.src.toNat) (t x.src.toNat) (s x.dst.toNat) (t x.dst.toNat) x.cap h1
    have h6 : ∀ a b c d p q r u : Int, a + b ≤ c + d → p + q ≤ r + u → a + p + (b + q) ≤ c + r + (d + u) := fun a b c d p q r u h1 h2 => by omega
    exact h6 _ _ _ _ _ _ _ _ ih h5
theorem cut_and {n : Net} {ns : Nat} {s t : Nat → Bool} (h1 : CutP n ns s) (h2 : CutP n ns t) : CutP n ns fun v => s v && t v := ⟨h1.1, h1.2.1, by simp [h1.2.2.1, h2.2.2.1], by simp [h1.2.2.2]⟩
theorem cut_or {n : Net} {ns : Nat} {s t : Nat → Bool} (h1 : CutP n ns s) (h2 : CutP n ns t) : CutP n ns fun v => s v || t v := ⟨h1.1, h1.2.1, by simp [h1.2.2.1], by simp [h1.2.2.2, h2.2.2.2]⟩

set_option maxHeartbeats 8000000 in
theorem cutpairs_law {H : Heap} {n : Net} {a z1 z2 : V} {s1 s2 : List Bool} (hin : NetIn H n a) (hz1 : BL H z1 s1) (hz2 : BL H z2 s2) : ∃ v H', callL E (.f 21) [NV n a, z1, z2] H = some (v, H') ∧ v = .bool true := by
  refine call_E rfl nc21 rfl ?_
  unfold gc21
  obtain ⟨hc0, hlen, hN2, hN40, hcap⟩ := some_facts (n := n) (vs := 30) (m := 60) (by omega) (by omega) (by omega) (fun x hx => (hin.arc x hx).2.2)
  obtain ⟨x, H1, HA, p1, p2, gb, hA, hSl, hHp, hxs⟩ := some_pre hin (vs := 30) (ms := 60) (m := 60) rfl (by omega) (by omega) (by omega)
  generalize someN n 30 60 = m at *
  obtain ⟨vn, S, T, hvn, hS, hT, hSv, hTv, hST, hv2, hv4, hlm, hinN⟩ := chk_st hc0
  unfold NV nbox at p1
  unfold NV
  have hl : lenOf a = some n.arcs.length := Rw.len hin.al
  refine wa_sr ⟨_, by simp [len_cells hl]; rfl, ?_⟩
  refine wa_sr ⟨_, by simp -implicitDefEqProofs [p1, p2, hxs]; rfl, ?_⟩
  have lk1 := lt_of_get gb
  have q4 : ∀ X, rdn (HA ++ X) H.length 0 4 = some [V.int .i64 m.N, .int .i64 m.S, .int .i64 m.T, x] := fun X => rdn_all gb rfl
  have q4e := q4 []
  rw [List.append_nil] at q4e
  have hZ1 := (hHp.bl hz1).tb
  have hZ2 := (hHp.bl hz2).tb
  have e1 := pcall_ok (side_ok (H := prot [] HA) (hA.prot fun k _ => by simp) (hZ1.prot fun k _ => by simp) hvn hv4 hS hT hSv hTv)
  rw [length_prot] at e1
  have e2 := side_ok (hA.app [nbox m x, rB vn (sideF S T s1.length fun j => s1.getD j false)]) (hZ2.app [nbox m x, rB vn (sideF S T s1.length fun j => s1.getD j false)]) hvn hv4 hS hT hSv hTv
  simp only [List.length_append, List.length_cons, List.length_nil, Nat.zero_add, Nat.reduceAdd, List.append_assoc, List.cons_append, List.nil_append] at e2
  have C1 : CutP m vn (sideF S T s1.length fun j => s1.getD j false) := side_cut hc0 hvn hS hT hST
  have C2 : CutP m vn (sideF S T s2.length fun j => s2.getD j false) := side_cut hc0 hvn hS hT hST
  generalize hsA : (sideF S T s1.length fun j => s1.getD j false) = sA at *
  generalize hsB : (sideF S T s2.length fun j => s2.getD j false) = sB at *
  unfold NV at e1 e2
  have nlt : H.length < HA.length + 0 := by omega
  refine wa_seq (wa_dreg (s' := _) (by
    simp -implicitDefEqProofs [dinsL, dins, q4, q4e, e1, e2]
    rfl) (by simp [Chk.ok, V.blk?]; omega) ?_)
  have hA := hA.app [nbox m x, rB vn sA, nbox m x, rB vn sB]
  have gb := get_pre (X := [nbox m x, rB vn sA, nbox m x, rB vn sB]) gb
  have hTA : TB (HA ++ [nbox m x, rB vn sA, nbox m x, rB vn sB]) (.sl (HA.length + 1) 0 vn vn) vn fun j => .bool (sA j) := TB.own (G := []) (m := .ex) (by simp [rB])
  have hTB : TB (HA ++ [nbox m x, rB vn sA, nbox m x, rB vn sB]) (.sl (HA.length + 3) 0 vn vn) vn fun j => .bool (sB j) := TB.own (G := []) (m := .ex) (by simp [rB])
  refine wa_rg [(3, .ptr H.length 0), (7, .sl (HA.length + 1) 0 vn vn), (8, .sl (HA.length + 3) 0 vn vn)] (by simp [Rg]) ?_
  change ∀ τ', Rg τ' _ → WP E _ ⟨τ', HA ++ [nbox m x, rB vn sA, nbox m x, rB vn sB]⟩ _
  clear e1 e2 q4 q4e nlt hZ1 hZ2
  generalize HA ++ [nbox m x, rB vn sA, nbox m x, rB vn sB] = HB at *
  generalize HA.length + 1 = kA at *
  generalize HA.length + 3 = kB at *
  generalize H.length = k3 at *
  rintro τ ⟨t3, t7, t8, -⟩
  dsimp only at t3 t7 t8
  obtain ⟨_, _, _, _, hpos, hsum⟩ := chk_zero hc0
  have hsum := ((sumOk_iff _).1 hsum).2
  unfold big at hsum
  have hsum2 := capS_le_of (M := 1125899906842624) m.arcs fun y hy => by have := hcap y hy; omega
  -- capacities
  obtain ⟨G1, e1⟩ := cap_ok hA hTA C1
  obtain ⟨G2, e2⟩ := cap_ok (hA.app G1) (hTB.app G1) C2
  unfold NV at e1 e2
  have q4 : ∀ X, rdn (HB ++ X) k3 0 4 = some [V.int .i64 m.N, .int .i64 m.S, .int .i64 m.T, x] := fun X => rdn_all gb rfl
  have q4e := q4 []
  rw [List.append_nil] at q4e
  refine wa_sr ⟨_, by simp -implicitDefEqProofs [t3, t7, q4e, e1]; rfl, ?_⟩
  refine wa_sr ⟨_, by simp -implicitDefEqProofs [t3, t8, q4, e2]; rfl, ?_⟩
  have hA := hA.app (G1 ++ G2)
  have gb := get_pre (X := G1 ++ G2) gb
  have hTA := hTA.app (G1 ++ G2)
  have hTB := hTB.app (G1 ++ G2)
  have cA := capC_b (s := sA) hpos m.arcs.length (Nat.le_refl _)
  have cB := capC_b (s := sB) hpos m.arcs.length (Nat.le_refl _)
  have cP := capC_b (s := fun v => sA v && sB v) hpos m.arcs.length (Nat.le_refl _)
  have cQ := capC_b (s := fun v => sA v || sB v) hpos m.arcs.length (Nat.le_refl _)
  have hpair := cap_pair (s := sA) (t := sB) hpos m.arcs.length (Nat.le_refl _)
  rw [List.take_length] at cA cB cP cQ
  refine wa_rg [(3, .ptr k3 0), (7, .sl kA 0 vn vn), (8, .sl kB 0 vn vn), (9, .int .i64 (capC m.arcs sA m.arcs.length)), (10, .int .i64 0), (11, .int .i64 (capC m.arcs sB m.arcs.length)), (12, .int .i64 0)] (by simp [Rg, t3, t7, t8]) ?_
  clear e1 e2 q4 q4e t3 t7 t8 τ
  generalize HB ++ (G1 ++ G2) = HC at *
  rintro τ ⟨t3, t7, t8, t9, t10, t11, t12, -⟩
  dsimp only at t3 t7 t8 t9 t10 t11 t12
  have q4 : ∀ X, rdn (HC ++ X) k3 0 4 = some [V.int .i64 m.N, .int .i64 m.S, .int .i64 m.T, x] := fun X => rdn_all gb rfl
  have q4e := q4 []
  rw [List.append_nil] at q4e
  have e1 := pcall_ok (and_ok (H := prot [] HC) (hTA.prot fun k _ => by simp) (hTB.prot fun k _ => by simp) hv4)
  rw [length_prot] at e1
  obtain ⟨G3, e2⟩ := cap_ok (z := .sl HC.length 0 vn vn) (hA.app [rB vn fun v => sA v && sB v]) (TB.own (G := []) (m := .ex) (by simp [rB])) (cut_and C1 C2)
  unfold NV at e2
  refine wa_seq (wa_dreg (s' := _) (by
    simp -implicitDefEqProofs [dinsL, dins, t3, t7, t8, q4, q4e, e1, e2]
    rfl) (by simp) ?_)
  have hA := hA.app ([rB vn fun v => sA v && sB v] ++ G3)
  have gb := get_pre (X := [rB vn fun v => sA v && sB v] ++ G3) gb
  have hTA := hTA.app ([rB vn fun v => sA v && sB v] ++ G3)
  have hTB := hTB.app ([rB vn fun v => sA v && sB v] ++ G3)
  refine wa_rg [(3, .ptr k3 0), (7, .sl kA 0 vn vn), (8, .sl kB 0 vn vn), (9, .int .i64 (capC m.arcs sA m.arcs.length)), (10, .int .i64 0), (11, .int .i64 (capC m.arcs sB m.arcs.length)), (12, .int .i64 0), (13, .int .i64 (capC m.arcs (fun v => sA v && sB v) m.arcs.length)), (14, .int .i64 0)] (by simp [Rg, t3, t7, t8, t9, t10, t11, t12]) ?_
  change ∀ τ', Rg τ' _ → WP E _ ⟨τ', HC ++ ([rB vn fun v => sA v && sB v] ++ G3)⟩ _
  clear e1 e2 q4 q4e t3 t7 t8 t9 t10 t11 t12 τ
  generalize HC ++ ([rB vn fun v => sA v && sB v] ++ G3) = HD at *
  rintro τ ⟨t3, t7, t8, t9, t10, t11, t12, t13, t14, -⟩
  dsimp only at t3 t7 t8 t9 t10 t11 t12 t13 t14
  have q4 : ∀ X, rdn (HD ++ X) k3 0 4 = some [V.int .i64 m.N, .int .i64 m.S, .int .i64 m.T, x] := fun X => rdn_all gb rfl
  have q4e := q4 []
  rw [List.append_nil] at q4e
  have e1 := pcall_ok (or_ok (H := prot [] HD) (hTA.prot fun k _ => by simp) (hTB.prot fun k _ => by simp) hv4)
  rw [length_prot] at e1
  obtain ⟨G3, e2⟩ := cap_ok (z := .sl HD.length 0 vn vn) (hA.app [rB vn fun v => sA v || sB v]) (TB.own (G := []) (m := .ex) (by simp [rB])) (cut_or C1 C2)
  unfold NV at e2
  refine wa_seq (wa_dreg (s' := _) (by
    simp -implicitDefEqProofs [dinsL, dins, t3, t7, t8, q4, q4e, e1, e2]
    rfl) (by simp) ?_)
  have hTA := hTA.app ([rB vn fun v => sA v || sB v] ++ G3)
  have hTB := hTB.app ([rB vn fun v => sA v || sB v] ++ G3)
  refine wa_rg [(7, .sl kA 0 vn vn), (8, .sl kB 0 vn vn), (9, .int .i64 (capC m.arcs sA m.arcs.length)), (10, .int .i64 0), (11, .int .i64 (capC m.arcs sB m.arcs.length)), (12, .int .i64 0), (13, .int .i64 (capC m.arcs (fun v => sA v && sB v) m.arcs.length)), (14, .int .i64 0), (15, .int .i64 (capC m.arcs (fun v => sA v || sB v) m.arcs.length)), (16, .int .i64 0)] (by simp [Rg, t7, t8, t9, t10, t11, t12, t13, t14]) ?_
  change ∀ τ', Rg τ' _ → WP E _ ⟨τ', HD ++ ([rB vn fun v => sA v || sB v] ++ G3)⟩ _
  clear e1 e2 q4 q4e t3 t7 t8 t9 t10 t11 t12 t13 t14 τ
  generalize HD ++ ([rB vn fun v => sA v || sB v] ++ G3) = HE at *
  rintro τ ⟨t7, t8, t9, t10, t11, t12, t13, t14, t15, t16, -⟩
  dsimp only at t7 t8 t9 t10 t11 t12 t13 t14 t15 t16
  generalize capC m.arcs sA m.arcs.length = x1 at *
  generalize capC m.arcs sB m.arcs.length = x2 at *
  generalize capC m.arcs (fun v => sA v && sB v) m.arcs.length = x3 at *
  generalize capC m.arcs (fun v => sA v || sB v) m.arcs.length = x4 at *
  have w1 : IntKind.i64.wrap (x3 + x4) = x3 + x4 := w64 (by omega) (by omega)
  have w2 : IntKind.i64.wrap (x1 + x2) = x1 + x2 := w64 (by omega) (by omega)
  have n1 : ¬ (x1 + x2 < x3 + x4) := by omega
  have n2 : ¬ (x3 < 0) := by omega
  have n3 : ¬ (x4 < 0) := by omega
  refine wa_sr ⟨_, by simp -implicitDefEqProofs [t9, t10, t11, t12, t13, t14, t15, t16, w1, w2, n1, n2, n3]; rfl, ?_⟩
  refine wa_if (t := false) (by simp) (fun h => by cases h) (fun _ => ?_)
  have a1 := and_ok hTA hTA hv4
  have hself : (fun v => sA v && sA v) = sA := funext fun v => by simp
  rw [hself] at a1
  obtain ⟨G1, b1⟩ := (pc_bools (a := .sl HE.length 0 vn vn) (b := .sl kA 0 vn vn) (H := HE ++ [rB vn sA]) ((TB.own (G := []) (m := .ex) (by simp [rB]) : TB _ _ vn fun j => .bool (sA j))) (hTA.app _) (by omega)).run
  have a2 := or_ok (hTA.app ([rB vn sA] ++ G1)) (hTB.app ([rB vn sA] ++ G1)) hv4
  have a3 := or_ok (hTB.app ([rB vn sA] ++ (G1 ++ [rB vn fun v => sA v || sB v]))) (hTA.app ([rB vn sA] ++ (G1 ++ [rB vn fun v => sA v || sB v]))) hv4
  obtain ⟨G2, b2⟩ := (pc_bools (a := .sl (HE.length + (G1.length + 1)) 0 vn vn) (b := .sl (HE.length + (G1.length + 2)) 0 vn vn) (n := vn) (f := fun j => sA j || sB j) (H := HE ++ ([rB vn sA] ++ (G1 ++ [rB vn fun v => sA v || sB v, rB vn fun v => sB v || sA v]))) (TB.own (G := []) (m := .ex) (by simp [rB])) ((TB.own (G := []) (m := .ex) (by simp [rB]) : TB _ _ vn fun j => .bool (sB j || sA j)).congr fun j _ => by rw [Bool.or_comm]) (by omega)).run
  obtain ⟨G3, b3⟩ := awake04 (HE ++ ([rB vn sA] ++ (G1 ++ ([rB vn fun v => sA v || sB v, rB vn fun v => sB v || sA v] ++ G2))))
  simp only [List.length_append, List.length_cons, List.length_nil, Nat.zero_add, Nat.reduceAdd, List.append_assoc, List.cons_append, List.nil_append] at b1 a2 a3 b2 b3
  refine wa_sr ⟨_, by simp -implicitDefEqProofs [t7, t8, a1, b1, a2, a3, b2, b3]; rfl, ?_⟩
  exact wa_ret ⟨by simp, _, by simp; rfl, rfl⟩
end Go.Proofs.Ytpojdgeginigjaa
