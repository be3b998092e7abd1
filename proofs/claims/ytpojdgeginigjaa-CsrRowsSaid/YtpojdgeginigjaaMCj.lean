/- CsrPairs: the walk. -/
import Derived.Test.YtpojdgeginigjaaMF
import Derived.Test.YtpojdgeginigjaaMDb
set_option linter.unusedSimpArgs false
set_option linter.unusedVariables false
namespace Go.Proofs.Ytpojdgeginigjaa
open Go Go.Ar
set_option maxRecDepth 100000

theorem CA.s1 {H : Heap} {c : Csr} {x : CV} (h : CA H c x) : x.x1.scalar = true := len_scalar h.f1.len
theorem CA.s2 {H : Heap} {c : Csr} {x : CV} (h : CA H c x) : x.x2.scalar = true := len_scalar h.f2.len
theorem CA.s3 {H : Heap} {c : Csr} {x : CV} (h : CA H c x) : x.x3.scalar = true := len_scalar h.f3.len
theorem CA.s4 {H : Heap} {c : Csr} {x : CV} (h : CA H c x) : x.x4.scalar = true := len_scalar h.f4.len
theorem CA.s5 {H : Heap} {c : Csr} {x : CV} (h : CA H c x) : x.x5.scalar = true := len_scalar h.f5.len
theorem CA.s6 {H : Heap} {c : Csr} {x : CV} (h : CA H c x) : x.x6.scalar = true := len_scalar h.f6.len
theorem At.symm {n : Net} {c : Csr} {a k u v b : Nat} (h : At n c a k u v b) (ha : a < c.m) : At n c b k v u a :=
  ⟨h.hk, h.hv, h.hu, fun e => h.ne e.symm, h.iv, h.iu, h.eb, h.ea, ha, h.head', h.rev', h.arc', h.head, h.rev, h.arc, by
    rcases h.two with ⟨h1, h2, h3, h4, h5, h6⟩ | ⟨h1, h2, h3, h4, h5, h6⟩
    · exact .inr ⟨h2, h1, h3, h4, h6, h5⟩
    · exact .inl ⟨h2, h1, h3, h4, h6, h5⟩⟩
theorem tail_at {n : Net} {c : Csr} {xc : CV} {H : Heap} {a k u v b : Nat} (hI : IsCsr n c) (hC : CA H c xc) (h : At n c a k u v b) (ha : a < c.m) (hm : c.m ≤ 2 ^ 20) (hs : c.vs ≤ 2 ^ 20) : Pc E 53 [CVal c xc, .int .i64 a] H (.tup [.int .i64 u, .bool true]) := by
  have h1 := pos_ge n.arcs k u
  have h2 := pos_lt h.hk h.iu
  rw [← h.ea] at h1 h2
  refine pc_tail hC.f1 hC.f2 ha (by omega) hs h.hu (fun j hj => ?_) (fun j hj _ => ?_)
  · rw [hI.fst]; have := fst_mono n.arcs hj; omega
  · rw [hI.fst]; have := fst_mono n.arcs (show u + 1 ≤ j from hj); omega

set_option maxHeartbeats 8000000 in
theorem pairs_law {H : Heap} {n : Net} {a : V} (hin : NetIn H n a) : ∃ v H', callL E (.f 12) [NV n a] H = some (v, H') ∧ v = .bool true := by
  refine call_E rfl nc12 rfl ?_
  unfold gc12
  obtain ⟨hc0, hlen, hN2, hN40, hcap⟩ := some_facts (n := n) (vs := 40) (m := 80) (by omega) (by omega) (by omega) (fun x hx => (hin.arc x hx).2.2)
  obtain ⟨x, H1, HA, s1, s2, gb, hA, hSl, hHp, hxs⟩ := some_pre hin (vs := 40) (ms := 80) (m := 80) rfl (by omega) (by omega) (by omega)
  have hcb := capB_some hcap
  generalize someN n 40 80 = m at *
  obtain ⟨c, xc, G, e1, hC, hI, _⟩ := make_ok hA hc0
  have hcm := csr_m hI
  have hvs : c.vs ≤ 40 := by have := hI.vs; omega
  unfold NV nbox at s1
  unfold NV at e1 ⊢
  have hl : lenOf a = some n.arcs.length := Rw.len hin.al
  refine wa_sr ⟨_, by simp [len_cells hl]; rfl, ?_⟩
  refine wa_sr ⟨_, by simp -implicitDefEqProofs [s1, s2, hxs]; rfl, ?_⟩
  have b4 := rdn_all (X := []) (n := 4) gb rfl
  rw [List.append_nil] at b4
  unfold CVal at e1
  have hA := hA.app G
  have gb := get_pre (X := G) gb
  generalize HA ++ G = HZ at *
  refine wa_sr ⟨_, by simp -implicitDefEqProofs [b4, e1, hC.s1, hC.s2, hC.s3, hC.s4, hC.s5, hC.s6]; rfl, ?_⟩
  -- the heap behind
  have hA := hA.app [cbox c xc]
  have gb := get_pre (X := [cbox c xc]) gb
  have hC := hC.app [cbox c xc]
  have gc : (HZ ++ [cbox c xc])[HZ.length]? = some (cbox c xc) := by simp
  refine wa_rg [(1, .ptr H.length 0), (3, .ptr HZ.length 0), (4, .int .i64 0)] (by simp [Rg]) ?_
  change ∀ τ', Rg τ' _ → WP E _ ⟨τ', HZ ++ [cbox c xc]⟩ _
  generalize HZ ++ [cbox c xc] = HB at *
  generalize HZ.length = k3 at *
  generalize H.length = k1 at *
  clear e1 s1 s2 b4
  rintro τ ⟨t1, t3, t4, -⟩
  dsimp only at t1 t3 t4
  obtain ⟨f1, g1⟩ := pc_len (c := c) (x := xc) (H := HB) hC.f2.len
  obtain ⟨f2, g2⟩ := (pc_len (c := c) (x := xc) (H := prot [] HB) hC.f2.len).pc0
  have g2e := g2 []
  rw [List.append_nil, List.nil_append] at g2e
  have hcv : CVal c xc = .agg [.int .i64 c.N, .int .i64 c.S, .int .i64 c.T, xc.x1, xc.x2, xc.x3, xc.x4, xc.x5, xc.x6] := rfl
  rw [hcv] at g1 g2 g2e
  have c9 : ∀ X, rdn (HB ++ X) k3 0 9 = some [.int .i64 c.N, .int .i64 c.S, .int .i64 c.T, xc.x1, xc.x2, xc.x3, xc.x4, xc.x5, xc.x6] := fun X => rdn_all gc rfl
  have cr : ∀ X o, rd (HB ++ X) k3 o = [V.int .i64 c.N, .int .i64 c.S, .int .i64 c.T, xc.x1, xc.x2, xc.x3, xc.x4, xc.x5, xc.x6][o]? := fun X o => rd_pre gc
  have br : ∀ X o, rd (HB ++ X) k1 o = [V.int .i64 m.N, .int .i64 m.S, .int .i64 m.T, x][o]? := fun X o => rd_pre gb
  have c9e := c9 []
  have cre := cr []
  rw [List.append_nil] at c9e
  simp only [List.append_nil] at cre
  refine wa_seq (wa_dreg (s' := _) (by
    simp -implicitDefEqProofs [dinsL, dins, t4, t3, c9, cr, c9e, cre, g2, g2e, hC.f3.len, hC.f4.len, hC.f5.len, hC.f6.len]
    rfl) (by simp) ?_)
  refine wa_if (t := false) (by simp) (fun h => by cases h) (fun _ => ?_)
  refine wa_rh [(1, .ptr k1 0), (3, .ptr k3 0)] HB (by simp [Rg, t1, t3]) ⟨_, rfl⟩ ?_
  clear t1 t3 t4 τ g2 g2e
  rintro τ G0 ⟨t1, t3, -⟩
  dsimp only at t1 t3
  refine wa_sr ⟨_, by simp -implicitDefEqProofs [t3, c9, g1]; rfl, ?_⟩
  have lk1 := lt_of_get gb
  have lk3 := lt_of_get gc
  refine wa_cut (fun s => True) ?_ ?_
  · refine wa_for (n := c.m) (fun i (_ : Heap) => [(1, .ptr k1 0), (3, .ptr k3 0)]) (fun i G H' => H' = HB ++ G) (G0 ++ f1 G0)
      (by decide) (fun i hi => w64 (by omega) (by omega)) (by simp) (by simp) (by simp [Rg, t1, t3]) (by simp) (by simp) ?_ ?_
    · clear t1 t3 τ
      rintro i G τ _ hi t55 t54 ⟨t1, t3, -⟩ rfl
      dsimp only [ev] at *
      obtain ⟨k, u, v, b, hAt⟩ := csr_at hI hi
      have hAs := hAt.symm hi
      have hib : i ≠ b := fun e => hAt.ne (pos_inj hAt.hk hAt.hk hAt.iu hAt.iv (by rw [← hAt.ea, ← hAt.eb]; exact e)).2
      have hbm := hAt.hb
      obtain ⟨q3, o3, c3, e3, r3⟩ := hC.f3.at hi
      obtain ⟨q3', o3', c3', e3', r3'⟩ := hC.f3.at hbm
      obtain ⟨q5, o5, c5, e5, r5⟩ := hC.f5.at hi
      obtain ⟨q5', o5', c5', e5', r5'⟩ := hC.f5.at hbm
      obtain ⟨q6, o6, c6, e6, r6⟩ := hC.f6.at hi
      obtain ⟨q6', o6', c6', e6', r6'⟩ := hC.f6.at hbm
      obtain ⟨q2, o2, c2, e2, r2⟩ := hC.f2.at hi
      obtain ⟨q2', o2', c2', e2', r2'⟩ := hC.f2.at hbm
      obtain ⟨q4, o4, c4, e4, r4⟩ := hC.f4.at hi
      rw [e3] at e3'; cases e3'
      rw [e5] at e5'; cases e5'
      rw [e6] at e6'; cases e6'
      rw [e2] at e2'; cases e2'
      rw [hAt.rev] at r3
      rw [hAt.rev'] at r3'
      rw [hAt.arc] at r5
      rw [hAt.arc'] at r5'
      rw [hAt.head] at r2
      rw [hAt.head'] at r2'
      obtain ⟨qx, ox, cx, ex, hqx, rx, _⟩ := hA.at hAt.hk
      obtain ⟨ft, gt⟩ := tail_at hI hC hAt hi (by omega) (by omega)
      obtain ⟨fu, gu⟩ := tail_at hI hC hAs hbm (by omega) (by omega)
      rw [hcv] at gt gu
      simp only [e2, e3, e4, e5, e6] at g1 gt gu c9 cr
      have hb1 : ¬ ((b : Int) < 0) := by omega
      have hb2 : ¬ (c.m ≤ b) := by omega
      have hb3 : ¬ (b = i) := fun e => hib e.symm
      have hb4 : ((b : Int) == (i : Int)) = false := by simp; omega
      have hbb : c.back b = !c.back i := by rcases hAt.two with ⟨h1, h2, _⟩ | ⟨h1, h2, _⟩ <;> rw [h1, h2] <;> rfl
      rw [hbb] at r6'
      have hkl := hAt.hk
      refine wa_sr ⟨_, by simp [t55]; rfl, ?_⟩
      refine wa_sr ⟨_, by simp -implicitDefEqProofs [t3, t55, cr, e3, hi, r3]; rfl, ?_⟩
      have hnb : (c.back i == !c.back i) = false := by cases c.back i <;> rfl
      refine wa_dr rfl rfl ⟨_, by simp -implicitDefEqProofs [t3, t55, c9, cr, g1, hb1, hb2, hb3, hb4, hbm, hi, e3, r3', e5, r5, r5', e6, r6, r6', hnb]; rfl, ?_⟩
      refine wa_if (t := false) (by simp) (fun h => by cases h) (fun _ => ?_)
      refine wa_rh [(1, .ptr k1 0), (3, .ptr k3 0), (55, .int .i64 i), (54, .int .i64 c.m), (5, .int .i64 i), (6, .int .i64 b)] HB (by simp [Rg, t1, t3, t55, t54]) ⟨_, rfl⟩ ?_
      clear t1 t3 t55 t54 τ G
      rintro τ G ⟨t1, t3, t55, t54, t5, t6, -⟩
      dsimp only at t1 t3 t55 t54 t5 t6
      refine wa_sr ⟨_, by simp -implicitDefEqProofs [t3, t5, c9, gt]; rfl, ?_⟩
      refine wa_sr ⟨_, by simp -implicitDefEqProofs [t3, t6, c9, gu]; rfl, ?_⟩
      refine wa_sr ⟨_, by simp -implicitDefEqProofs [t3, t5, t6, cr, e2, hi, hbm, r2, r2']; rfl, ?_⟩
      refine wa_if (t := false) (by simp) (fun h => by cases h) (fun _ => ?_)
      refine wa_rh [(1, .ptr k1 0), (3, .ptr k3 0), (55, .int .i64 i), (54, .int .i64 c.m), (5, .int .i64 i), (6, .int .i64 b), (7, .int .i64 u), (9, .int .i64 v)] HB (by simp [Rg, t1, t3, t55, t54, t5, t6]) ⟨_, rfl⟩ ?_
      clear t1 t3 t55 t54 t5 t6 τ G
      rintro τ G ⟨t1, t3, t55, t54, t5, t6, t7, t9, -⟩
      dsimp only at t1 t3 t55 t54 t5 t6 t7 t9
      have lq5 := Rw.lt hC.f5.rw q5 (by rw [e5]; rfl)
      have n1 : (k1 == HB.length + G.length) = false := by simp; omega
      have n3 : (k3 == HB.length + G.length) = false := by simp; omega
      have n5 : (q5 == HB.length + G.length) = false := by simp; omega
      have nx : (qx == HB.length + G.length) = false := by simp; omega
      unfold Arc.cells at rx
      refine wa_seq (wa_dreg (s' := _) (by
        simp -implicitDefEqProofs [dinsL, dins, newOf, t1, t3, t5, cr, br, e5, hi, r5, ex, hkl, rx, getElem?_app0, set_app0]
        rfl) (by simp [Chk.ok, V.blk?, n1, n3, n5, nx, bne]) ?_)
      rcases hAt.two with ⟨h1, h2, h3, h4, h5, h6⟩ | ⟨h1, h2, h3, h4, h5, h6⟩
      · rw [h1] at r6
        rw [h5] at r4
        refine wa_seq (wa_dreg (s' := _) (by
          rw [dinsL_plain rfl]
          simp -implicitDefEqProofs [t1, t3, t5, t7, t9, cr, e6, e4, hi, r6, r4, h3, h4]
          rfl) (by simp) ?_)
        refine wa_cond (t := false) (by simp) (fun h => by cases h) (fun _ => wa_skip ?_)
        exact ⟨by simp [t55], by simp [t54], G ++ [.cells [.int .i64 u, .int .i64 v, .int .i64 m.arcs[k].cap] .ex], by simp [Rg, t1, t3], by simp [h3, h4]⟩
      · rw [h1] at r6
        rw [h5] at r4
        refine wa_seq (wa_dreg (s' := _) (by
          rw [dinsL_plain rfl]
          simp -implicitDefEqProofs [t1, t3, t5, t7, t9, cr, e6, e4, hi, r6, r4, h3, h4]
          rfl) (by simp) ?_)
        refine wa_cond (t := false) (by simp) (fun h => by cases h) (fun _ => wa_skip ?_)
        exact ⟨by simp [t55], by simp [t54], G ++ [.cells [.int .i64 v, .int .i64 u, .int .i64 m.arcs[k].cap] .ex], by simp [Rg, t1, t3], by simp [h3, h4]⟩
    · rintro G τ H' _ _; trivial
  · rintro ⟨τ, H'⟩ _
    refine wa_sr ⟨_, by simp -implicitDefEqProofs [call_yes (k := 50) rfl]; rfl, ?_⟩
    exact wa_ret ⟨by simp, _, by simp; rfl, rfl⟩
end Go.Proofs.Ytpojdgeginigjaa
