/- CsrBack: the walk. -/
import Derived.Test.YtpojdgeginigjaaMCk
set_option linter.unusedSimpArgs false
set_option linter.unusedVariables false
namespace Go.Proofs.Ytpojdgeginigjaa
open Go Go.Ar
set_option maxRecDepth 100000

theorem CA.frame {H H' : Heap} {c : Csr} {x : CV} (h : CA H c x) (e : ∀ k, (x.x1.blk? = some k ∨ x.x2.blk? = some k ∨ x.x3.blk? = some k ∨ x.x4.blk? = some k ∨ x.x5.blk? = some k ∨ x.x6.blk? = some k) → H'[k]? = H[k]?) : CA H' c x :=
  ⟨h.1.frame fun k hk => e k (by simp [hk]), h.2.frame fun k hk => e k (by simp [hk]), h.3.frame fun k hk => e k (by simp [hk]), h.4.frame fun k hk => e k (by simp [hk]), h.5.frame fun k hk => e k (by simp [hk]), h.6.frame fun k hk => e k (by simp [hk])⟩
theorem CA.lt {H : Heap} {c : Csr} {x : CV} (h : CA H c x) : ∀ k, (x.x1.blk? = some k ∨ x.x2.blk? = some k ∨ x.x3.blk? = some k ∨ x.x4.blk? = some k ∨ x.x5.blk? = some k ∨ x.x6.blk? = some k) → k < H.length := fun k hk => by
  rcases hk with hk | hk | hk | hk | hk | hk
  · exact h.1.lt k hk
  · exact h.2.lt k hk
  · exact h.3.lt k hk
  · exact h.4.lt k hk
  · exact h.5.lt k hk
  · exact h.6.lt k hk
theorem most_at {n : Net} {c : Csr} {a k u v b : Nat} (h : At n c a k u v b) (hc : 0 ≤ (n.arcs[k]'h.hk).cap) : mostF c a = (n.arcs[k]'h.hk).cap := by
  unfold mostF
  rw [h.rev]
  simp only [Int.toNat_natCast]
  rcases h.two with ⟨_, _, _, _, e1, e2⟩ | ⟨_, _, _, _, e1, e2⟩ <;> rw [e1, e2] <;> split <;> omega
theorem res_sum {n : Net} {c : Csr} {a k u v b : Nat} {f : Nat → Int} (h : At n c a k u v b) (ha : a < c.m) : resF c f b = (n.arcs[k]'h.hk).cap - resF c f a := by
  rw [resF_at h, resF_at (h.symm ha)]
  rcases h.two with ⟨e3, e4, _, _, e1, e2⟩ | ⟨e3, e4, _, _, e1, e2⟩ <;> rw [e1, e2, e3, e4] <;> simp <;> omega
theorem res_bound {n : Net} {c : Csr} {a k u v b : Nat} {f : Nat → Int} (h : At n c a k u v b) (hf : withinF n.arcs n.arcs.length f) : 0 ≤ resF c f a ∧ resF c f a ≤ (n.arcs[k]'h.hk).cap := by
  rw [resF_at h]
  obtain ⟨f1, f2, _⟩ := hf k h.hk h.hk
  rcases h.two with ⟨e3, e4, _, _, e1, e2⟩ | ⟨e3, e4, _, _, e1, e2⟩ <;> rw [e1, e3] <;> simp <;> omega
theorem flow_g {n : Net} {c : Csr} (hI : IsCsr n c) {f : Nat → Int} (hf : withinF n.arcs n.arcs.length f) : ∀ a, a < c.m → flowG c (resF c f) a := fun a ha => by
  obtain ⟨k, u, v, b, h⟩ := csr_at hI ha
  obtain ⟨f1, f2⟩ := res_bound h hf
  have hm := most_at h (by omega)
  unfold flowG
  rw [hm, h.rev]
  exact ⟨f1, f2, by simpa using res_sum (f := f) h ha⟩
theorem flow_back {n : Net} {c : Csr} (hI : IsCsr n c) {f g : Nat → Int} (hf : withinF n.arcs n.arcs.length f) (hg : FlowI c (resF c f) c.m g) : ∀ j, j < n.arcs.length → g j = f j := fun j hj => by
  obtain ⟨s, d, e1, e2, hs, hd⟩ := hI.inn _ (List.getElem_mem hj)
  by_cases hne : s = d
  · obtain ⟨_, _, f3⟩ := hf j hj hj
    rw [f3 (by omega)]
    refine hg.2 j fun a ha _ e => ?_
    obtain ⟨k, u, v, b, h⟩ := csr_at hI ha
    rw [h.arc] at e
    simp only [Int.toNat_natCast] at e
    subst e
    have := h.iu
    rw [inc_iff] at this
    omega
  · obtain ⟨i1, i2⟩ := inc_l e1 e2 hne
    obtain ⟨_, _, _, _, g4, g5⟩ := hI.fil j hj hj s d e1 e2 hne
    have l2 : pos n.arcs j d < c.m := by rw [hI.m]; have := pos_lt hj i2; have := fst_mono n.arcs (show d + 1 ≤ c.vs from hd); omega
    have := hg.1 _ l2 g5
    rw [g4] at this
    simp only [Int.toNat_natCast] at this
    rw [this]
    unfold resF
    rw [if_pos g5, g4]; simp

/-- Res, with one number changed: right just if that one is within. -/
theorem res_one {n : Net} {c : Csr} {x : CV} {y : V} {f : Nat → Int} {H : Heap} (h : CA H c x) (hI : IsCsr n c) {k : Nat} {w : Int} (hk : k < n.arcs.length) (hkl : n.arcs[k].src ≠ n.arcs[k].dst) (hf : withinF n.arcs n.arcs.length f) (hy : TB H y n.arcs.length fun j => .int .i64 (fupd f k w j)) (hm : c.m ≤ 2 ^ 20) (hcb : capB n.arcs) :
    ∃ v G, ∃ e : Int, callL E (.f 47) [CVal c x, y] H = some (.tup [v, .int .i64 e], H ++ G) ∧ decide (e = 0) = (decide (0 ≤ w) && decide (w ≤ n.arcs[k].cap)) := by
  by_cases hw : 0 ≤ w ∧ w ≤ n.arcs[k].cap
  · have hf' : ∀ a, a < c.m → resG c (fupd f k w) a := fun a ha => by
      obtain ⟨k', u, v, b, h1⟩ := csr_at hI ha
      unfold resG
      rw [h1.arc]
      simp only [Int.toNat_natCast]
      rcases h1.two with ⟨_, _, _, _, e, _⟩ | ⟨e, _⟩
      · right
        rw [e]
        unfold fupd
        split
        · rename_i e; subst e; exact hw
        · obtain ⟨f1, f2, _⟩ := hf k' h1.hk h1.hk
          exact ⟨f1, f2⟩
      · exact .inl e
    obtain ⟨F, G, e1⟩ := res_ok h hy hm (csr_k hI) (csr_c hI hcb) hf'
    rw [List.append_assoc] at e1
    exact ⟨_, F ++ (rI c.m (resF c (fupd f k w)) :: G), 0, e1, by simp [hw.1, hw.2]⟩
  · obtain ⟨s, d, e1, e2, hs, hd⟩ := hI.inn _ (List.getElem_mem hk)
    have hne : s ≠ d := by omega
    obtain ⟨i1, i2⟩ := inc_l e1 e2 hne
    obtain ⟨⟨g1, g2, g3, g4, g5⟩, _⟩ := hI.fil k hk hk s d e1 e2 hne
    have l1 : pos n.arcs k s < c.m := by rw [hI.m]; have := pos_lt hk i1; have := fst_mono n.arcs (show s + 1 ≤ c.vs from hs); omega
    obtain ⟨G, e1⟩ := res_bad h hy hm (csr_k hI) (csr_c hI hcb) l1 (fun hb => by
      unfold resG at hb
      rw [g4, g5, g3] at hb
      simp only [Int.toNat_natCast, fupd] at hb
      rcases hb with hb | hb
      · cases hb
      · exact hw (by simpa using hb))
    refine ⟨_, G, 20, e1, ?_⟩
    have : ¬ (0 ≤ w ∧ w ≤ n.arcs[k].cap) := hw
    simp only [← Bool.decide_and]
    rw [decide_eq_false this]; rfl
/-- Flow, with one number more: refused. -/
theorem flow_one {n : Net} {c : Csr} {x : CV} {y : V} {f : Nat → Int} {H : Heap} (h : CA H c x) (hI : IsCsr n c) {a0 : Nat} (ha0 : a0 < c.m) (hf : withinF n.arcs n.arcs.length f) (hy : TB H y c.m fun j => .int .i64 (fupd (resF c f) a0 (resF c f a0 + 1) j)) (hm : c.m ≤ 2 ^ 20) (hl : n.arcs.length ≤ 16384) (hcb : capB n.arcs) :
    ∃ G, callL E (.f 51) [CVal c x, y, .int .i64 n.arcs.length] H = some (.tup [.nils, .int .i64 20], H ++ G) := by
  obtain ⟨v, H', h1, ⟨h2, _⟩ | ⟨_, G, rfl, rfl⟩⟩ := flow_walk h hy hm hl (csr_k hI) (csr_r hI) (csr_c hI hcb) (csr_inj hI)
  · exfalso
    have h3 := h2 a0 ha0
    obtain ⟨k, u, v, b, p⟩ := csr_at hI ha0
    have hm := most_at p (hcb _ (List.getElem_mem p.hk)).1
    have hs := res_sum (f := f) p ha0
    have hib : b ≠ a0 := fun e => p.ne (pos_inj p.hk p.hk p.iu p.iv (by rw [← p.ea, ← p.eb]; exact e.symm)).2
    unfold flowG at h3
    rw [hm, p.rev] at h3
    simp only [Int.toNat_natCast, fupd, if_true, if_neg hib] at h3
    omega
  · exact ⟨G, h1⟩

set_option maxHeartbeats 8000000 in
theorem csrback_law {H : Heap} {n : Net} {a z : V} {zs : List Int} {at' w : Int} (hin : NetIn H n a) (hz : IL .i64 H z zs) (hzb : ∀ x, x ∈ zs → i64b x) (hat : 0 ≤ at' ∧ at' ≤ 255) (hw : i64b w) : ∃ v H', callL E (.f 11) [NV n a, z, .int .u8 at', .int .i64 w] H = some (v, H') ∧ v = .bool true := by
  refine call_E rfl nc11 rfl ?_
  unfold gc11
  obtain ⟨hc0, hlen, hN2, hN40, hcap⟩ := some_facts (n := n) (vs := 40) (m := 80) (by omega) (by omega) (by omega) (fun x hx => (hin.arc x hx).2.2)
  obtain ⟨x, H1, HA, s1, s2, gb, hA, hSl, hHp, hxs⟩ := some_pre hin (vs := 40) (ms := 80) (m := 80) rfl (by omega) (by omega) (by omega)
  have hcb := capB_some hcap
  generalize someN n 40 80 = m at *
  unfold NV nbox at s1
  unfold NV
  have hl : lenOf a = some n.arcs.length := Rw.len hin.al
  have hzA := hHp.il hz
  refine wa_sr ⟨_, by simp [len_cells hl]; rfl, ?_⟩
  refine wa_sr ⟨_, by simp -implicitDefEqProofs [s1, s2, hxs]; rfl, ?_⟩
  have lk1 := lt_of_get gb
  -- what is within
  obtain ⟨f, F, G, hf, e1⟩ := within_ok hA hzA hzb hcb (by omega)
  have b4 := rdn_all (X := []) (n := 4) gb rfl
  rw [List.append_nil] at b4
  unfold NV at e1
  refine wa_sr ⟨_, by simp -implicitDefEqProofs [b4, e1]; rfl, ?_⟩
  have hxlt := Rw.lt hA
  have hA := hA.app (F ++ (rI m.arcs.length f :: G))
  have gb := get_pre (X := F ++ (rI m.arcs.length f :: G)) gb
  have gf : (HA ++ F ++ (rI m.arcs.length f :: G))[(HA ++ F).length]? = some (rI m.arcs.length f) := by simp
  rw [List.append_assoc] at e1 gf
  have hkfA : HA.length ≤ (HA ++ F).length := by simp
  refine wa_rg [(2, .int .u8 at'), (3, .int .i64 w), (4, .ptr H.length 0), (9, .sl (HA ++ F).length 0 m.arcs.length m.arcs.length)] (by simp [Rg]) ?_
  clear b4
  generalize (HA ++ F).length = kf at *
  change ∀ τ', Rg τ' _ → WP E _ ⟨τ', HA ++ (F ++ (rI m.arcs.length f :: G))⟩ _
  generalize HA ++ (F ++ (rI m.arcs.length f :: G)) = HC at *
  generalize H.length = k1 at *
  rintro τ ⟨t2, t3, t4, t9, -⟩
  dsimp only at t2 t3 t4 t9
  clear e1 hzA s1 s2
  -- the row of the net
  obtain ⟨c, xc, G, e1, hC, hI, hge⟩ := make_ok hA hc0
  have lkf := lt_of_get gf
  have hcm := csr_m hI
  have hvs : c.vs ≤ 40 := by have := hI.vs; omega
  unfold NV CVal at e1
  have b4 := rdn_all (X := []) (n := 4) gb rfl
  rw [List.append_nil] at b4
  have hA := hA.app G
  have gf := get_pre (X := G) gf
  have gb := get_pre (X := G) gb
  have hcge : ∀ k, (xc.x1.blk? = some k ∨ xc.x2.blk? = some k ∨ xc.x3.blk? = some k ∨ xc.x4.blk? = some k ∨ xc.x5.blk? = some k ∨ xc.x6.blk? = some k) → k ≠ kf := fun k hk e => by have := hge k hk; omega
  have hZC : HC.length ≤ (HC ++ G).length := by simp
  generalize HC ++ G = HZ at *
  refine wa_sr ⟨_, by simp -implicitDefEqProofs [t4, b4, e1, hC.s1, hC.s2, hC.s3, hC.s4, hC.s5, hC.s6]; rfl, ?_⟩
  have hA := hA.app [cbox c xc]
  have gf := get_pre (X := [cbox c xc]) gf
  have gb := get_pre (X := [cbox c xc]) gb
  have hC := hC.app [cbox c xc]
  have gc : (HZ ++ [cbox c xc])[HZ.length]? = some (cbox c xc) := by simp
  refine wa_rg [(2, .int .u8 at'), (3, .int .i64 w), (4, .ptr k1 0), (9, .sl kf 0 m.arcs.length m.arcs.length), (10, .ptr HZ.length 0), (11, .int .i64 0)] (by simp [Rg, t2, t3, t4, t9]) ?_
  change ∀ τ', Rg τ' _ → WP E _ ⟨τ', HZ ++ [cbox c xc]⟩ _
  have hkc : HZ.length < (HZ ++ [cbox c xc]).length := by simp
  have hckf : HZ.length ≠ kf := by omega
  generalize HZ ++ [cbox c xc] = HD at *
  generalize HZ.length = k10 at *
  clear e1 b4 t2 t3 t4 t9 τ
  rintro τ ⟨t2, t3, t4, t9, t10, t11, -⟩
  dsimp only at t2 t3 t4 t9 t10 t11
  -- what is left
  have hF : TB HD (.sl kf 0 m.arcs.length m.arcs.length) m.arcs.length fun j => .int .i64 (f j) := TB.own (G := []) gf
  obtain ⟨F1, G1, e1⟩ := res_ok hC hF (by omega) (csr_k hI) (csr_c hI hcb) (csr_g hI hf)
  have c9 := rdn_all (X := []) (n := 9) gc rfl
  rw [List.append_nil] at c9
  unfold CVal at e1
  rw [List.append_assoc] at e1
  refine wa_sr ⟨_, by simp -implicitDefEqProofs [t9, t10, c9, e1]; rfl, ?_⟩
  have gr : (HD ++ (F1 ++ (rI c.m (resF c f) :: G1)))[(HD ++ F1).length]? = some (rI c.m (resF c f)) := by rw [← List.append_assoc]; simp
  have hcr : ∀ k, (xc.x1.blk? = some k ∨ xc.x2.blk? = some k ∨ xc.x3.blk? = some k ∨ xc.x4.blk? = some k ∨ xc.x5.blk? = some k ∨ xc.x6.blk? = some k) → k ≠ (HD ++ F1).length := fun k hk e => by have := hC.lt k hk; simp at e; omega
  have hrf : (HD ++ F1).length ≠ kf := by have := lt_of_get gf; simp; omega
  have hk12A : HA.length ≤ (HD ++ F1).length := by have := lt_of_get gf; simp; omega
  have hr1 : (HD ++ F1).length ≠ k1 := by have := lt_of_get gb; simp; omega
  have hr10 : (HD ++ F1).length ≠ k10 := by have := lt_of_get gc; simp; omega
  have hA := hA.app (F1 ++ (rI c.m (resF c f) :: G1))
  have gf := get_pre (X := F1 ++ (rI c.m (resF c f) :: G1)) gf
  have gb := get_pre (X := F1 ++ (rI c.m (resF c f) :: G1)) gb
  have hC := hC.app (F1 ++ (rI c.m (resF c f) :: G1))
  have gc := get_pre (X := F1 ++ (rI c.m (resF c f) :: G1)) gc
  refine wa_rg [(2, .int .u8 at'), (3, .int .i64 w), (4, .ptr k1 0), (9, .sl kf 0 m.arcs.length m.arcs.length), (10, .ptr k10 0), (11, .int .i64 0), (12, .sl (HD ++ F1).length 0 c.m c.m), (13, .int .i64 0)] (by simp [Rg, t2, t3, t4, t9, t10, t11]) ?_
  change ∀ τ', Rg τ' _ → WP E _ ⟨τ', HD ++ (F1 ++ (rI c.m (resF c f) :: G1))⟩ _
  generalize HD ++ (F1 ++ (rI c.m (resF c f) :: G1)) = HG at *
  generalize (HD ++ F1).length = k12 at *
  clear e1 c9 hF t2 t3 t4 t9 t10 t11 τ
  rintro τ ⟨t2, t3, t4, t9, t10, t11, t12, t13, -⟩
  dsimp only at t2 t3 t4 t9 t10 t11 t12 t13
  have hcv : CVal c xc = .agg [.int .i64 c.N, .int .i64 c.S, .int .i64 c.T, xc.x1, xc.x2, xc.x3, xc.x4, xc.x5, xc.x6] := rfl
  have c9 := rdn_all (X := []) (n := 9) gc rfl
  rw [List.append_nil] at c9
  obtain ⟨G0, g1⟩ := (pc_len (c := c) (x := xc) (H := HG) hC.f2.len).run
  rw [hcv] at g1
  refine wa_sr ⟨_, by simp -implicitDefEqProofs [t10, t11, t12, t13, c9, g1]; rfl, ?_⟩
  refine wa_if (t := false) (by simp) (fun h => by cases h) (fun _ => ?_)
  have hA := hA.app G0
  have gf := get_pre (X := G0) gf
  have gb := get_pre (X := G0) gb
  have gr := get_pre (X := G0) gr
  have hC := hC.app G0
  have gc := get_pre (X := G0) gc
  refine wa_rg [(2, .int .u8 at'), (3, .int .i64 w), (4, .ptr k1 0), (9, .sl kf 0 m.arcs.length m.arcs.length), (10, .ptr k10 0), (12, .sl k12 0 c.m c.m)] (by simp [Rg, t2, t3, t4, t9, t10, t12]) ?_
  change ∀ τ', Rg τ' _ → WP E _ ⟨τ', HG ++ G0⟩ _
  generalize HG ++ G0 = HE at *
  clear c9 g1 t2 t3 t4 t9 t10 t11 t12 t13 τ
  rintro τ ⟨t2, t3, t4, t9, t10, t12, -⟩
  dsimp only at t2 t3 t4 t9 t10 t12
  have hR : TB HE (.sl k12 0 c.m c.m) c.m fun j => .int .i64 (resF c f j) := TB.own (G := []) gr
  have cr : ∀ o, rd HE k10 o = [V.int .i64 c.N, .int .i64 c.S, .int .i64 c.T, xc.x1, xc.x2, xc.x3, xc.x4, xc.x5, xc.x6][o]? := fun o => rd_get gc
  have br : ∀ o, rd HE k1 o = [V.int .i64 m.N, .int .i64 m.S, .int .i64 m.T, x][o]? := fun o => rd_get gb
  refine wa_sr ⟨_, by simp -implicitDefEqProofs [t12]; rfl, ?_⟩
  refine wa_cut (fun s => Rg s.τ [(2, .int .u8 at'), (3, .int .i64 w), (4, .ptr k1 0), (9, .sl kf 0 m.arcs.length m.arcs.length), (10, .ptr k10 0), (12, .sl k12 0 c.m c.m)] ∧ s.H = HE) ?_ ?_
  · refine wa_for (n := c.m) (fun i (_ : Unit) => [(2, .int .u8 at'), (3, .int .i64 w), (4, .ptr k1 0), (9, .sl kf 0 m.arcs.length m.arcs.length), (10, .ptr k10 0), (12, .sl k12 0 c.m c.m), (52, .sl k12 0 c.m c.m)]) (fun i _ H' => H' = HE) ()
      (by decide) (fun i hi => w64 (by omega) (by omega)) (by simp) (by simp) (by simp [Rg, t2, t3, t4, t9, t10, t12]) rfl (by simp) ?_ ?_
    · clear t2 t3 t4 t9 t10 t12 τ
      rintro i _ τ HX hi t54 t53 ⟨t2, t3, t4, t9, t10, t12, t52, -⟩ rfl
      dsimp only [ev] at *
      obtain ⟨k, u, v, b, h⟩ := csr_at hI hi
      have hbm := h.hb
      have hkl := h.hk
      obtain ⟨q3, o3, c3, e3, r3⟩ := hC.f3.at0 hi
      obtain ⟨q5, o5, c5, e5, r5⟩ := hC.f5.at0 hi
      rw [h.rev] at r3
      rw [h.arc] at r5
      obtain ⟨qr, or', cr', er, rr⟩ := hR.at0 hi
      obtain ⟨qs, os, cs, es, rs⟩ := hR.at0 hbm
      cases er
      cases es
      obtain ⟨qx, ox, cx, ex, hqx, _, rx⟩ := hA.at hkl
      have rx2 : rd HX qx (ox + k * 3 + 2) = some (.int .i64 m.arcs[k].cap) := rd_of_rdn rx (j := 2) (by omega)
      obtain ⟨b1, b2⟩ := res_bound h hf
      obtain ⟨b3, b4⟩ := hcb _ (List.getElem_mem hkl)
      unfold big at b4
      rw [res_sum h hi, Nat.zero_add] at rs
      rw [Nat.zero_add] at rr
      have hn0 : ¬ (resF c f i < 0) := by omega
      have hws : IntKind.i64.wrap (m.arcs[k].cap - resF c f i) = m.arcs[k].cap - resF c f i := w64 (by omega) (by omega)
      generalize resF c f i = ri at *
      refine wa_sr ⟨_, by simp -implicitDefEqProofs [t54, t52, hi, rr]; rfl, ?_⟩
      refine wa_dr rfl rfl ⟨_, by simp -implicitDefEqProofs [t54, t4, t10, t12, cr, br, hn0, e3, hi, r3, hbm, rs, e5, r5, ex, hkl, rx2, hws]; rfl, ?_⟩
      refine wa_cond (t := false) (by simp) (fun h => by cases h) (fun _ => wa_skip ?_)
      exact ⟨by simp [t54], by simp [t53], (), by simp [Rg, t2, t3, t4, t9, t10, t12, t52], rfl⟩
    · rintro _ τ H' ⟨t2, t3, t4, t9, t10, t12, -⟩ h'
      exact ⟨by simp [Rg, t2, t3, t4, t9, t10, t12], h'⟩
  clear t2 t3 t4 t9 t10 t12 τ
  rintro ⟨τ, H'⟩ ⟨⟨t2, t3, t4, t9, t10, t12, -⟩, h'⟩
  dsimp only at t2 t3 t4 t9 t10 t12 h'
  subst h'
  -- the flow of which so much is left
  obtain ⟨g, F2, G2, hgI, e1⟩ : ∃ g F2 G2, FlowI c (resF c f) c.m g ∧ callL E (.f 51) [CVal c xc, .sl k12 0 c.m c.m, .int .i64 m.arcs.length] H' = some (.tup [.sl (H' ++ F2).length 0 m.arcs.length m.arcs.length, .int .i64 0], H' ++ (F2 ++ (rI m.arcs.length g :: G2))) := by
    obtain ⟨v, H'', h1, ⟨_, g, F, G, h2, rfl, rfl⟩ | ⟨⟨q, h2, h3⟩, _⟩⟩ := flow_walk hC hR (by omega) (by omega) (csr_k hI) (csr_r hI) (csr_c hI hcb) (csr_inj hI)
    · rw [List.append_assoc] at h1
      exact ⟨g, F, G, h2, h1⟩
    · exact absurd (flow_g hI hf q h2) h3
  have c9 := rdn_all (X := []) (n := 9) gc rfl
  rw [List.append_nil] at c9
  rw [hcv] at e1
  refine wa_sr ⟨_, by simp -implicitDefEqProofs [t9, t10, t12, c9, e1]; rfl, ?_⟩
  have hB : TB (H' ++ (F2 ++ (rI m.arcs.length g :: G2))) (.sl (H' ++ F2).length 0 m.arcs.length m.arcs.length) m.arcs.length fun j => .int .i64 (f j) := (TB.own (G := []) (m := .ex) (by rw [← List.append_assoc]; simp [rI]) : TB _ _ m.arcs.length fun j => .int .i64 (g j)).congr fun j hj => by rw [flow_back hI hf hgI j hj]
  have hA := hA.app (F2 ++ (rI m.arcs.length g :: G2))
  have gf := get_pre (X := F2 ++ (rI m.arcs.length g :: G2)) gf
  have gb := get_pre (X := F2 ++ (rI m.arcs.length g :: G2)) gb
  have gr := get_pre (X := F2 ++ (rI m.arcs.length g :: G2)) gr
  have hC := hC.app (F2 ++ (rI m.arcs.length g :: G2))
  have gc := get_pre (X := F2 ++ (rI m.arcs.length g :: G2)) gc
  refine wa_rg [(2, .int .u8 at'), (3, .int .i64 w), (4, .ptr k1 0), (9, .sl kf 0 m.arcs.length m.arcs.length), (10, .ptr k10 0), (12, .sl k12 0 c.m c.m), (16, .sl (H' ++ F2).length 0 m.arcs.length m.arcs.length), (17, .int .i64 0)] (by simp [Rg, t2, t3, t4, t9, t10, t12]) ?_
  change ∀ τ', Rg τ' _ → WP E _ ⟨τ', H' ++ (F2 ++ (rI m.arcs.length g :: G2))⟩ _
  clear c9 e1 t2 t3 t4 t9 t10 t12 τ hR cr br
  generalize H' ++ (F2 ++ (rI m.arcs.length g :: G2)) = HI at *
  generalize (H' ++ F2).length = k16 at *
  rintro τ ⟨t2, t3, t4, t9, t10, t12, t16, t17, -⟩
  dsimp only at t2 t3 t4 t9 t10 t12 t16 t17
  have hF : TB HI (.sl kf 0 m.arcs.length m.arcs.length) m.arcs.length fun j => .int .i64 (f j) := TB.own (G := []) gf
  obtain ⟨G0, g1⟩ := (pc_longs hB hF (by omega)).run
  refine wa_sr ⟨_, by simp -implicitDefEqProofs [t16, t17, t9, g1]; rfl, ?_⟩
  refine wa_if (t := false) (by simp) (fun h => by cases h) (fun _ => ?_)
  have hA := hA.app G0
  have gf := get_pre (X := G0) gf
  have gb := get_pre (X := G0) gb
  have gr := get_pre (X := G0) gr
  have hC := hC.app G0
  have gc := get_pre (X := G0) gc
  refine wa_rg [(2, .int .u8 at'), (3, .int .i64 w), (4, .ptr k1 0), (9, .sl kf 0 m.arcs.length m.arcs.length), (10, .ptr k10 0), (12, .sl k12 0 c.m c.m)] (by simp [Rg, t2, t3, t4, t9, t10, t12]) ?_
  change ∀ τ', Rg τ' _ → WP E _ ⟨τ', HI ++ G0⟩ _
  generalize HI ++ G0 = HJ at *
  clear g1 t2 t3 t4 t9 t10 t12 t16 t17 τ hB hF
  rintro τ ⟨t2, t3, t4, t9, t10, t12, -⟩
  dsimp only at t2 t3 t4 t9 t10 t12
  refine wa_sr ⟨_, by simp -implicitDefEqProofs [t12]; rfl, ?_⟩
  by_cases hm0 : c.m = 0
  · refine wa_if (t := true) (by simp [hm0]) (fun _ => ?_) (fun h => by cases h)
    refine wa_sr ⟨_, by simp -implicitDefEqProofs [call_yes (k := 50) rfl]; rfl, ?_⟩
    exact wa_rt ⟨by simp, _, by simp; rfl, rfl⟩
  refine wa_if (t := false) (by simp [hm0]) (fun h => by cases h) (fun _ => ?_)
  -- one number is changed
  have hw1 : IntKind.i64.wrap at' = at' := w64 (by omega) (by omega)
  obtain ⟨a0, ha0, hat0⟩ : ∃ a0 : Nat, a0 < c.m ∧ at'.tmod (c.m : Int) = (a0 : Int) := by
    refine ⟨(at'.tmod (c.m : Int)).toNat, ?_, ?_⟩
    · have := Int.emod_lt_of_pos at' (show (0 : Int) < c.m by omega)
      rw [Int.tmod_eq_emod_of_nonneg hat.1]
      have h2 := Int.emod_nonneg at' (show (c.m : Int) ≠ 0 by omega)
      omega
    · rw [Int.tmod_eq_emod_of_nonneg hat.1]
      have h2 := Int.emod_nonneg at' (show (c.m : Int) ≠ 0 by omega)
      omega
  obtain ⟨k, u, v, b, h⟩ := csr_at hI ha0
  have hkl := h.hk
  have hkne : m.arcs[k].src ≠ m.arcs[k].dst := by have := h.iu; rw [inc_iff] at this; exact this.1
  have cr : ∀ X o, rd (HJ ++ X) k10 o = [V.int .i64 c.N, .int .i64 c.S, .int .i64 c.T, xc.x1, xc.x2, xc.x3, xc.x4, xc.x5, xc.x6][o]? := fun X o => rd_pre gc
  have cre := cr []
  simp only [List.append_nil] at cre
  obtain ⟨q5, o5, c5, e5, r5⟩ := hC.f5.at0 ha0
  rw [h.arc] at r5
  have hmz : ¬ ((c.m : Int) = 0) := by omega
  refine wa_dr rfl rfl ⟨_, by simp -implicitDefEqProofs [t2, t10, t12, cre, hw1, hm0, hat0, e5, ha0, r5]; rfl, ?_⟩
  have hwf : wr HJ kf k [.int .i64 w] = some (HJ.set kf (rI m.arcs.length (fupd f k w))) := by
    rw [wr1 gf rfl (by simpa using hkl) rfl, tb_set]
    unfold rI
    rw [tb_congr fun j _ => show (if j = k then V.int .i64 w else V.int .i64 (f j)) = V.int .i64 (fupd f k w j) by unfold fupd; split <;> rfl]
  refine wa_sr ⟨_, by simp -implicitDefEqProofs [t3, t9, hkl, hwf]; rfl, ?_⟩
  have lkf := lt_of_get gf
  have oJ : ∀ j, j ≠ kf → (HJ.set kf (rI m.arcs.length (fupd f k w)))[j]? = HJ[j]? := fun j hj => List.getElem?_set_ne (fun e => hj e.symm)
  have gf' : (HJ.set kf (rI m.arcs.length (fupd f k w)))[kf]? = some (rI m.arcs.length (fupd f k w)) := List.getElem?_set_self lkf
  have hA : AL (HJ.set kf (rI m.arcs.length (fupd f k w))) x m.arcs := Rw.frame hA fun j hj => oJ j (by have := hxlt j hj; omega)
  have gb : (HJ.set kf (rI m.arcs.length (fupd f k w)))[k1]? = _ := (oJ k1 (by omega)).trans gb
  have gr : (HJ.set kf (rI m.arcs.length (fupd f k w)))[k12]? = _ := (oJ k12 hrf).trans gr
  have gc : (HJ.set kf (rI m.arcs.length (fupd f k w)))[k10]? = _ := (oJ k10 hckf).trans gc
  have hC : CA (HJ.set kf (rI m.arcs.length (fupd f k w))) c xc := hC.frame fun j hj => oJ j (hcge j hj)
  refine wa_rg [(2, .int .u8 at'), (3, .int .i64 w), (4, .ptr k1 0), (9, .sl kf 0 m.arcs.length m.arcs.length), (10, .ptr k10 0), (12, .sl k12 0 c.m c.m), (18, .int .i64 k)] (by simp [Rg, t2, t3, t4, t9, t10, t12]) ?_
  clear t2 t3 t4 t9 t10 t12 τ hwf cr cre r5
  generalize HJ.set kf (rI m.arcs.length (fupd f k w)) = HK at *
  rintro τ ⟨t2, t3, t4, t9, t10, t12, t18, -⟩
  dsimp only at t2 t3 t4 t9 t10 t12 t18
  have hF : TB HK (.sl kf 0 m.arcs.length m.arcs.length) m.arcs.length fun j => .int .i64 (fupd f k w j) := TB.own (G := []) gf'
  obtain ⟨y, G3, e, e1, he⟩ := res_one hC hI hkl hkne hf hF (by omega) hcb
  have c9 := rdn_all (X := []) (n := 9) gc rfl
  rw [List.append_nil] at c9
  rw [hcv] at e1
  refine wa_sr ⟨_, by simp -implicitDefEqProofs [t9, t10, c9, e1]; rfl, ?_⟩
  have hA := hA.app G3
  have gb := get_pre (X := G3) gb
  have gr := get_pre (X := G3) gr
  have gf' := get_pre (X := G3) gf'
  have hC := hC.app G3
  have gc := get_pre (X := G3) gc
  refine wa_rg [(2, .int .u8 at'), (3, .int .i64 w), (4, .ptr k1 0), (9, .sl kf 0 m.arcs.length m.arcs.length), (10, .ptr k10 0), (12, .sl k12 0 c.m c.m), (18, .int .i64 k), (20, .int .i64 e)] (by simp [Rg, t2, t3, t4, t9, t10, t12, t18]) ?_
  change ∀ τ', Rg τ' _ → WP E _ ⟨τ', HK ++ G3⟩ _
  clear t2 t3 t4 t9 t10 t12 t18 τ c9 e1 hF
  generalize HK ++ G3 = HL at *
  rintro τ ⟨t2, t3, t4, t9, t10, t12, t18, t20, -⟩
  dsimp only at t2 t3 t4 t9 t10 t12 t18 t20
  -- one more is left
  obtain ⟨b1, b2⟩ := res_bound h hf
  obtain ⟨b3, b4⟩ := hcb _ (List.getElem_mem hkl)
  unfold big at b4
  have hwr : IntKind.i64.wrap (resF c f a0 + 1) = resF c f a0 + 1 := w64 (by omega) (by omega)
  have hr0 : rd HL k12 a0 = some (.int .i64 (resF c f a0)) := by rw [rd_get gr]; simp [ha0]
  have hwg : wr HL k12 a0 [.int .i64 (resF c f a0 + 1)] = some (HL.set k12 (rI c.m (fupd (resF c f) a0 (resF c f a0 + 1)))) := by
    rw [wr1 gr rfl (by simpa using ha0) rfl, tb_set]
    unfold rI
    rw [tb_congr fun j _ => show (if j = a0 then V.int .i64 (resF c f a0 + 1) else V.int .i64 (resF c f j)) = V.int .i64 (fupd (resF c f) a0 (resF c f a0 + 1) j) by unfold fupd; split <;> rfl]
  refine wa_sr ⟨_, by simp -implicitDefEqProofs [t2, t12, hw1, hm0, hat0, ha0, hr0, hwr, hwg]; rfl, ?_⟩
  have oJ : ∀ j, j ≠ k12 → (HL.set k12 (rI c.m (fupd (resF c f) a0 (resF c f a0 + 1))))[j]? = HL[j]? := fun j hj => List.getElem?_set_ne (fun e => hj e.symm)
  have gr' : (HL.set k12 (rI c.m (fupd (resF c f) a0 (resF c f a0 + 1))))[k12]? = some (rI c.m (fupd (resF c f) a0 (resF c f a0 + 1))) := List.getElem?_set_self (lt_of_get gr)
  have gb : (HL.set k12 (rI c.m (fupd (resF c f) a0 (resF c f a0 + 1))))[k1]? = _ := (oJ k1 (fun e => hr1 e.symm)).trans gb
  have gc : (HL.set k12 (rI c.m (fupd (resF c f) a0 (resF c f a0 + 1))))[k10]? = _ := (oJ k10 (fun e => hr10 e.symm)).trans gc
  have hC : CA (HL.set k12 (rI c.m (fupd (resF c f) a0 (resF c f a0 + 1)))) c xc := hC.frame fun j hj => oJ j (hcr j hj)
  have hA : AL (HL.set k12 (rI c.m (fupd (resF c f) a0 (resF c f a0 + 1)))) x m.arcs := Rw.frame hA fun j hj => oJ j (by have := hxlt j hj; omega)
  refine wa_rg [(3, .int .i64 w), (4, .ptr k1 0), (9, .sl kf 0 m.arcs.length m.arcs.length), (10, .ptr k10 0), (12, .sl k12 0 c.m c.m), (18, .int .i64 k), (20, .int .i64 e)] (by simp [Rg, t2, t3, t4, t9, t10, t12, t18, t20]) ?_
  clear t2 t3 t4 t9 t10 t12 t18 t20 τ hr0 hwg oJ
  generalize HL.set k12 (rI c.m (fupd (resF c f) a0 (resF c f a0 + 1))) = HM at *
  rintro τ ⟨t3, t4, t9, t10, t12, t18, t20, -⟩
  dsimp only at t3 t4 t9 t10 t12 t18 t20
  have hR : TB HM (.sl k12 0 c.m c.m) c.m fun j => .int .i64 (fupd (resF c f) a0 (resF c f a0 + 1) j) := TB.own (G := []) gr'
  obtain ⟨G4, e1⟩ := flow_one hC hI ha0 hf hR (by omega) (by omega) hcb
  have c9 := rdn_all (X := []) (n := 9) gc rfl
  rw [List.append_nil] at c9
  rw [hcv] at e1
  refine wa_sr ⟨_, by simp -implicitDefEqProofs [t9, t10, t12, c9, e1]; rfl, ?_⟩
  obtain ⟨qx, ox, cx, ex, hqx, rx, _⟩ := hA.at hkl
  have rx2 : rd (HM ++ G4) qx (ox + k * 3 + 2) = some (.int .i64 m.arcs[k].cap) := rd_of_rdn (rx G4) (j := 2) (by omega)
  have br : rd (HM ++ G4) k1 3 = some x := rd_pre gb
  have he' : (e == 0) = (decide (0 ≤ w) && decide (w ≤ m.arcs[k].cap)) := by rw [← he, Bool.eq_iff_iff]; simp
  by_cases hw0 : 0 ≤ w
  · rw [decide_eq_true hw0, Bool.true_and] at he'
    refine wa_sr ⟨_, by simp -implicitDefEqProofs [t3, t4, t18, t20, hw0, br, ex, hkl, rx2, he', call_yes (k := 50) rfl]; rfl, ?_⟩
    exact wa_ret ⟨by simp, _, by simp; rfl, rfl⟩
  · rw [decide_eq_false hw0, Bool.false_and] at he'
    refine wa_sr ⟨_, by simp -implicitDefEqProofs [t3, t4, t18, t20, hw0, he', call_yes (k := 50) rfl]; rfl, ?_⟩
    exact wa_ret ⟨by simp, _, by simp; rfl, rfl⟩
end Go.Proofs.Ytpojdgeginigjaa
