/- CsrTurns: the walk. -/
import Derived.Test.YtpojdgeginigjaaMCj
set_option linter.unusedSimpArgs false
set_option linter.unusedVariables false
namespace Go.Proofs.Ytpojdgeginigjaa
open Go Go.Ar
set_option maxRecDepth 100000

theorem inc_flip (v : Nat) (a : Ar.Arc) : inc v (flip a) = inc v a := by
  rw [Bool.eq_iff_iff, inc_iff, inc_iff]
  simp only [flip]
  constructor
  · rintro ⟨h1, h2⟩; exact ⟨fun e => h1 e.symm, h2.symm⟩
  · rintro ⟨h1, h2⟩; exact ⟨fun e => h1 e.symm, h2.symm⟩
theorem deg_flip (l : List Ar.Arc) (v : Nat) : deg (l.map flip) v = deg l v := by
  unfold deg
  rw [List.countP_map]
  congr 1
  funext a
  exact inc_flip v a
theorem fst_flip (l : List Ar.Arc) : ∀ v, fst (l.map flip) v = fst l v
  | 0 => rfl
  | v + 1 => by simp only [fst, fst_flip l v, deg_flip]
theorem pos_flip (l : List Ar.Arc) (k v : Nat) : pos (l.map flip) k v = pos l k v := by
  unfold pos
  rw [fst_flip, ← List.map_take, deg_flip]
/-- The rows of a net, and of the net turned: the same arcs, the other way. -/
theorem turn_at {n : Net} {c d : Csr} (hc : IsCsr n c) (hd : IsCsr (turn n) d) : c.vs = d.vs ∧ c.m = d.m ∧ (∀ u, c.first u = d.first u) ∧ ∀ a, a < c.m → ∃ k u v b, At n c a k u v b ∧ d.head a = v ∧ d.rev a = b ∧ d.arc a = k ∧ d.back a = !c.back a ∧ d.arc b = k ∧ d.back b = c.back a ∧ d.cap b = c.cap a := by
  have hvs : c.vs = d.vs := by have := hc.vs; have := hd.vs; simp only [turn] at this; omega
  have hm : c.m = d.m := by rw [hc.m, hd.m]; simp only [turn]; rw [fst_flip, hvs]
  refine ⟨hvs, hm, fun u => by rw [hc.fst, hd.fst]; simp only [turn]; rw [fst_flip], fun a ha => ?_⟩
  obtain ⟨k, u, v, b, h⟩ := csr_at hc ha
  obtain ⟨k', u', v', b', h'⟩ := csr_at hd (show a < d.m by omega)
  have hk' : k' < n.arcs.length := by have := h'.hk; simpa [turn] using this
  have hget : (turn n).arcs[k']'h'.hk = flip n.arcs[k'] := by simp [turn]
  have hi' := h'.iu
  rw [hget, inc_flip] at hi'
  have he := h'.ea
  simp only [turn] at he
  rw [pos_flip, h.ea] at he
  obtain ⟨rfl, rfl⟩ := pos_inj h.hk hk' h.iu hi' he
  have two' := h'.two
  rw [hget] at two'
  simp only [flip] at two'
  have hvv : v' = v := by
    have := h.ne
    rcases h.two with ⟨_, _, e1, e2, _⟩ | ⟨_, _, e1, e2, _⟩ <;> rcases two' with ⟨_, _, e3, e4, _⟩ | ⟨_, _, e3, e4, _⟩ <;> omega
  subst hvv
  have hbb : b' = b := by rw [h'.eb, h.eb]; simp only [turn]; rw [pos_flip]
  subst hbb
  refine ⟨k, u, v', b', h, h'.head, h'.rev, h'.arc, ?_, h'.arc', ?_, ?_⟩
  · rcases h.two with ⟨p1, p2, e1, e2, _⟩ | ⟨p1, p2, e1, e2, _⟩ <;> rcases two' with ⟨q1, q2, e3, e4, _⟩ | ⟨q1, q2, e3, e4, _⟩ <;> first | (exfalso; have := h.ne; omega) | (rw [p1, q1]; rfl)
  · rcases h.two with ⟨p1, p2, e1, e2, _⟩ | ⟨p1, p2, e1, e2, _⟩ <;> rcases two' with ⟨q1, q2, e3, e4, _⟩ | ⟨q1, q2, e3, e4, _⟩ <;> first | (exfalso; have := h.ne; omega) | (rw [p1, q2])
  · rcases h.two with ⟨p1, p2, e1, e2, e5, e6⟩ | ⟨p1, p2, e1, e2, e5, e6⟩ <;> rcases two' with ⟨q1, q2, e3, e4, e7, e8⟩ | ⟨q1, q2, e3, e4, e7, e8⟩ <;> first | (exfalso; have := h.ne; omega) | (rw [e5, e8])
theorem withinF_turn {n : Net} {f : Nat → Int} (h : withinF n.arcs n.arcs.length f) : withinF (turn n).arcs (turn n).arcs.length f := fun j hj _ => by
  have hj' : j < n.arcs.length := by simpa [turn] using hj
  obtain ⟨h1, h2, h3⟩ := h j hj' hj'
  have hget : (turn n).arcs[j] = flip n.arcs[j] := by simp [turn]
  rw [hget]
  exact ⟨h1, h2, fun e => h3 e.symm⟩
theorem capB_turn {n : Net} (h : capB n.arcs) : capB (turn n).arcs := fun x hx => by
  simp only [turn, List.mem_map] at hx
  obtain ⟨y, hy, rfl⟩ := hx
  exact h y hy

set_option maxHeartbeats 8000000 in
theorem csrturns_law {H : Heap} {n : Net} {a z : V} {zs : List Int} (hin : NetIn H n a) (hz : IL .i64 H z zs) (hzb : ∀ x, x ∈ zs → i64b x) : ∃ v H', callL E (.f 10) [NV n a, z] H = some (v, H') ∧ v = .bool true := by
  refine call_E rfl nc10 rfl ?_
  unfold gc10
  obtain ⟨hc0, hlen, hN2, hN40, hcap⟩ := some_facts (n := n) (vs := 40) (m := 80) (by omega) (by omega) (by omega) (fun x hx => (hin.arc x hx).2.2)
  obtain ⟨x, H1, HA, s1, s2, gb, hA, hSl, hHp, hxs⟩ := some_pre hin (vs := 40) (ms := 80) (m := 80) rfl (by omega) (by omega) (by omega)
  have hcb := capB_some hcap
  generalize someN n 40 80 = m at *
  unfold NV nbox at s1
  unfold NV
  have hl : lenOf a = some n.arcs.length := Rw.len hin.al
  have hzA := hHp.il hz
  refine wa_sr ⟨_, by simp [len_cells hl]; rfl, ?_⟩
  refine wa_sr ⟨_, by simp -implicitDefEqProofs [s1, s2, hxs]; rfl, ?_⟩
  have br : ∀ X o, rd (HA ++ X) H.length o = [V.int .i64 m.N, .int .i64 m.S, .int .i64 m.T, x][o]? := fun X o => rd_pre gb
  have bre := br []
  simp only [List.append_nil] at bre
  have hxl : lenOf x = some m.arcs.length := Rw.len hA
  have lk1 := lt_of_get gb
  refine wa_sr ⟨_, by simp -implicitDefEqProofs [bre, fillc]; rfl, ?_⟩
  refine wa_sr ⟨_, by simp -implicitDefEqProofs [br, hxl]; rfl, ?_⟩
  have hm0 : MB HA.length (HA ++ [nbox ⟨m.N, m.T, m.S, []⟩ .nils]) HA.length ⟨m.N, m.T, m.S, []⟩ .nils := ⟨Nat.le_refl _, by simp, .inl ⟨rfl, rfl⟩, fun k hk => by simp [V.blk?] at hk⟩
  change WP E _ ⟨_, HA ++ [nbox ⟨m.N, m.T, m.S, []⟩ .nils]⟩ _
  generalize hk1 : H.length = k1 at *
  refine wa_cut (fun s => (∃ y, Hp HA s.H [] ∧ MB HA.length s.H HA.length (turn m) y) ∧ Rg s.τ [(1, z), (2, .ptr k1 0), (5, .ptr HA.length 0)]) ?_ ?_
  · refine wa_for (n := m.arcs.length) (fun i (y : V) => [(1, z), (2, .ptr k1 0), (5, .ptr HA.length 0), (28, x)]) (fun i y H' => Hp HA H' [] ∧ MB HA.length H' HA.length ⟨m.N, m.T, m.S, (m.arcs.take i).map flip⟩ y) .nils
      (by decide) (fun i hi => w64 (by omega) (by omega)) (by simp) (by simp) (by simp [Rg]) ⟨Hp.app _ _, by simpa using hm0⟩ (by simp) ?_ ?_
    · rintro i y τ H3 hi t30 t29 ⟨t1, t2, t5, t28, -⟩ ⟨hP, hM⟩
      dsimp only [ev] at *
      obtain ⟨ka, o, cc, hae, _, _, hr⟩ := AL.at (hP.rw hA : AL H3 x m.arcs) hi
      have htk : (m.arcs.take (i + 1)).map flip = (m.arcs.take i).map flip ++ [flip m.arcs[i]] := by
        rw [List.take_add_one, List.getElem?_eq_getElem hi, List.map_append]; rfl
      rw [htk]
      have hol : ((m.arcs.take i).map flip).length ≤ 2 ^ 20 := by simp; omega
      generalize (m.arcs.take i).map flip = out at *
      generalize m.arcs[i] = ar at *
      unfold Arc.cells at hr
      refine wa_sr ⟨_, by simp -implicitDefEqProofs [t28, t30, hae, hi, hr]; rfl, ?_⟩
      have hP4 := Hp_app hP [.cells ar.cells .ex]
      have hM4 := hM.app [.cells ar.cells .ex]
      have k9 : ∀ G o, rd (H3 ++ [.cells ar.cells .ex] ++ G) H3.length o = ar.cells[o]? := fun G o => by simp
      change WP E _ ⟨_, H3 ++ [.cells ar.cells .ex]⟩ _
      generalize H3 ++ [Blk.cells ar.cells .ex] = H4 at *
      generalize H3.length = k9n at *
      have d0 := k9 [] 0
      have d1 := k9 [] 1
      have d2 := k9 [] 2
      rw [List.append_nil] at d0 d1 d2
      simp only [Arc.cells, List.getElem?_cons_zero, List.getElem?_cons_succ] at d0 d1 d2
      have q3 := hM4.rd3 []
      rw [List.append_nil] at q3
      obtain ⟨x5, H6, p1, p2, p3, p4, p5⟩ := push3 hM4.own hP4.le (flip ar) hol
      have p1' : appendv (H4 ++ [.cells [.int .i64 ar.dst, .int .i64 ar.src, .int .i64 ar.cap] .ex]) 3 24 y (.sl H4.length 0 1 1) = some (x5, H6) := p1
      have hx5s : x5.scalar = true := len_scalar (Rw.len p2.al)
      have h4l := hM4.lt
      have b6 : H6[HA.length]? = some (nbox ⟨m.N, m.T, m.S, out⟩ y) := by rw [p4 _ h4l (fun e => hM4.ne _ e rfl)]; exact hM4.box
      obtain ⟨H7, w7, c7, f7, l7⟩ : ∃ X, wr H6 HA.length 3 [x5] = some X ∧ X[HA.length]? = some (nbox ⟨m.N, m.T, m.S, out ++ [flip ar]⟩ x5) ∧ (∀ j, j ≠ HA.length → X[j]? = H6[j]?) ∧ X.length = H6.length :=
        ⟨_, wr1 (o := 3) (v := x5) (cs := [.int .i64 m.N, .int .i64 m.T, .int .i64 m.S, y]) b6 rfl (by simp) hx5s, List.getElem?_set_self (List.getElem?_eq_some_iff.1 b6).1, fun j hj => List.getElem?_set_ne (fun e => hj e.symm), by simp⟩
      have hz5 : x5.cells = some [x5] := len_cells (Rw.len p2.al)
      refine wa_regs ⟨_, by simp -implicitDefEqProofs [t5, q3, d0, d1, d2, fillc, p1', hz5, w7]; rfl, ?_⟩
      have hple := hP4.le
      have hf : ∀ j, j < H4.length → j ≠ HA.length → y.blk? ≠ some j → H7[j]? = H4[j]? := fun j h1 h2 h3 => by rw [f7 j h2, p4 j h1 h3]
      refine ⟨by simp [t30], by simp [t29], x5, by simp [Rg, t1, t2, t5, t28, hae], ⟨by dsimp only; omega, fun j hj => ?_, fun q hq => by simp at hq, List.nodup_nil⟩, by omega, c7, p2.frame (fun j hj => f7 j (by have := p5 j hj; omega)), fun j hj => by have := p5 j hj; omega⟩
      rw [hf j (by omega) (by omega) (fun e => by have := hM4.own.ge j e; omega)]
      exact hP4.old j hj
    · rintro y τ H3 ⟨t1, t2, t5, -⟩ ⟨hP, hM⟩
      rw [List.take_length] at hM
      exact ⟨⟨y, hP, hM⟩, by simp [Rg, t1, t2, t5]⟩
  rintro ⟨τ, HB⟩ ⟨⟨y, hP, hM⟩, t1, t2, t5, -⟩
  dsimp only at hP hM t1 t2 t5
  have hA := hP.rw hA
  have hY := hM.own.al
  have hz3 := hP.il hzA
  have gb : HB[k1]? = _ := (hP.old _ lk1).trans gb
  have gt := hM.box
  have hct := hc0
  rw [← chk_turn m] at hct
  generalize HA.length = k5 at *
  clear hM hP hm0 br bre s1 s2
  -- what is within
  obtain ⟨f, F, G, hf, e1⟩ := within_ok hA hz3 hzb hcb (by omega)
  have b4 := rdn_all (X := []) (n := 4) gb rfl
  rw [List.append_nil] at b4
  unfold NV at e1
  refine wa_sr ⟨_, by simp -implicitDefEqProofs [t2, t1, b4, e1]; rfl, ?_⟩
  have hA := hA.app (F ++ (rI m.arcs.length f :: G))
  have hY := hY.app (F ++ (rI m.arcs.length f :: G))
  have gb := get_pre (X := F ++ (rI m.arcs.length f :: G)) gb
  have gt := get_pre (X := F ++ (rI m.arcs.length f :: G)) gt
  have hf0 : (HB ++ F ++ (rI m.arcs.length f :: G))[(HB ++ F).length]? = some (rI m.arcs.length f) := by simp
  rw [List.append_assoc] at e1 hf0
  refine wa_rg [(1, z), (2, .ptr k1 0), (5, .ptr k5 0), (8, .sl (HB ++ F).length 0 m.arcs.length m.arcs.length)] (by simp [Rg, t1, t2, t5]) ?_
  clear t1 t2 t5 τ b4
  generalize (HB ++ F).length = kf at *
  change ∀ τ', Rg τ' _ → WP E _ ⟨τ', HB ++ (F ++ (rI m.arcs.length f :: G))⟩ _
  generalize HB ++ (F ++ (rI m.arcs.length f :: G)) = HC at *
  rintro τ ⟨t1, t2, t5, t8, -⟩
  dsimp only at t1 t2 t5 t8
  have hF : TB HC (.sl kf 0 m.arcs.length m.arcs.length) m.arcs.length fun j => .int .i64 (f j) := TB.own (G := []) hf0
  clear hf0 e1 hz3 hzA
  -- the row of the net
  obtain ⟨c, xc, G, e1, hC, hI, _⟩ := make_ok hA hc0
  have hcm := csr_m hI
  have hvs : c.vs ≤ 40 := by have := hI.vs; omega
  unfold NV CVal at e1
  have b4 := rdn_all (X := []) (n := 4) gb rfl
  rw [List.append_nil] at b4
  have hA := hA.app G
  have hY := hY.app G
  have hF := hF.app G
  have gb := get_pre (X := G) gb
  have gt := get_pre (X := G) gt
  generalize HC ++ G = HZ at *
  refine wa_sr ⟨_, by simp -implicitDefEqProofs [t2, b4, e1, hC.s1, hC.s2, hC.s3, hC.s4, hC.s5, hC.s6]; rfl, ?_⟩
  have hA := hA.app [cbox c xc]
  have hY := hY.app [cbox c xc]
  have hF := hF.app [cbox c xc]
  have gb := get_pre (X := [cbox c xc]) gb
  have gt := get_pre (X := [cbox c xc]) gt
  have hC := hC.app [cbox c xc]
  have gc : (HZ ++ [cbox c xc])[HZ.length]? = some (cbox c xc) := by simp
  refine wa_rg [(2, .ptr k1 0), (5, .ptr k5 0), (8, .sl kf 0 m.arcs.length m.arcs.length), (9, .ptr HZ.length 0), (10, .int .i64 0)] (by simp [Rg, t2, t5, t8]) ?_
  change ∀ τ', Rg τ' _ → WP E _ ⟨τ', HZ ++ [cbox c xc]⟩ _
  generalize HZ ++ [cbox c xc] = HD at *
  generalize HZ.length = k9 at *
  clear e1 b4 t1 t2 t5 t8 τ
  rintro τ ⟨t2, t5, t8, t9, t10, -⟩
  dsimp only at t2 t5 t8 t9 t10
  -- the row of the net, turned
  obtain ⟨d, xd, G, e1, hD, hJ, _⟩ := make_ok hY hct
  obtain ⟨hvv, hmm, hfst, hat⟩ := turn_at hI hJ
  unfold NV CVal at e1
  have b4 : rdn HD k5 0 4 = some [V.int .i64 (turn m).N, .int .i64 (turn m).S, .int .i64 (turn m).T, y] := by
    have := rdn_all (X := []) (n := 4) gt rfl
    rw [List.append_nil] at this; exact this
  have hF := hF.app G
  have gc := get_pre (X := G) gc
  have hC := hC.app G
  generalize HD ++ G = HZ at *
  refine wa_sr ⟨_, by simp -implicitDefEqProofs [t5, b4, e1, hD.s1, hD.s2, hD.s3, hD.s4, hD.s5, hD.s6]; rfl, ?_⟩
  have hF := hF.app [cbox d xd]
  have gc := get_pre (X := [cbox d xd]) gc
  have hC := hC.app [cbox d xd]
  have hD := hD.app [cbox d xd]
  have gd : (HZ ++ [cbox d xd])[HZ.length]? = some (cbox d xd) := by simp
  refine wa_rg [(8, .sl kf 0 m.arcs.length m.arcs.length), (9, .ptr k9 0), (10, .int .i64 0), (11, .ptr HZ.length 0), (12, .int .i64 0)] (by simp [Rg, t8, t9, t10]) ?_
  change ∀ τ', Rg τ' _ → WP E _ ⟨τ', HZ ++ [cbox d xd]⟩ _
  generalize HZ ++ [cbox d xd] = HE at *
  generalize HZ.length = k11 at *
  clear e1 b4 t2 t5 t8 t9 t10 τ hA hY gb gt
  rintro τ ⟨t8, t9, t10, t11, t12, -⟩
  dsimp only at t8 t9 t10 t11 t12
  -- what is left
  obtain ⟨F1, G1, e1⟩ := res_ok hC hF (by omega) (csr_k hI) (csr_c hI hcb) (csr_g hI hf)
  have c9 := rdn_all (X := []) (n := 9) gc rfl
  rw [List.append_nil] at c9
  unfold CVal at e1
  rw [List.append_assoc] at e1
  refine wa_sr ⟨_, by simp -implicitDefEqProofs [t8, t9, c9, e1]; rfl, ?_⟩
  have hR : TB (HE ++ (F1 ++ (rI c.m (resF c f) :: G1))) (.sl (HE ++ F1).length 0 c.m c.m) c.m fun j => .int .i64 (resF c f j) := TB.own (G := []) (m := .ex) (by simp [rI])
  have hF := hF.app (F1 ++ (rI c.m (resF c f) :: G1))
  have hC := hC.app (F1 ++ (rI c.m (resF c f) :: G1))
  have hD := hD.app (F1 ++ (rI c.m (resF c f) :: G1))
  have gc := get_pre (X := F1 ++ (rI c.m (resF c f) :: G1)) gc
  have gd := get_pre (X := F1 ++ (rI c.m (resF c f) :: G1)) gd
  refine wa_rg [(8, .sl kf 0 m.arcs.length m.arcs.length), (9, .ptr k9 0), (10, .int .i64 0), (11, .ptr k11 0), (12, .int .i64 0), (13, .sl (HE ++ F1).length 0 c.m c.m), (14, .int .i64 0)] (by simp [Rg, t8, t9, t10, t11, t12]) ?_
  change ∀ τ', Rg τ' _ → WP E _ ⟨τ', HE ++ (F1 ++ (rI c.m (resF c f) :: G1))⟩ _
  generalize HE ++ (F1 ++ (rI c.m (resF c f) :: G1)) = HG at *
  generalize (HE ++ F1).length = k13 at *
  clear e1 c9 t8 t9 t10 t11 t12 τ
  rintro τ ⟨t8, t9, t10, t11, t12, t13, t14, -⟩
  dsimp only at t8 t9 t10 t11 t12 t13 t14
  have hnf : (turn m).arcs.length = m.arcs.length := by simp [turn]
  obtain ⟨F1, G1, e1⟩ := res_ok (f := f) hD hF (by omega) (fun a ha => by have := csr_k hJ a ha; rw [hnf] at this; exact this) (csr_c hJ (capB_turn hcb)) (csr_g hJ (withinF_turn hf))
  have c9 := rdn_all (X := []) (n := 9) gd rfl
  rw [List.append_nil] at c9
  unfold CVal at e1
  rw [List.append_assoc, ← hmm] at e1
  refine wa_sr ⟨_, by simp -implicitDefEqProofs [t8, t11, c9, e1]; rfl, ?_⟩
  have hS : TB (HG ++ (F1 ++ (rI c.m (resF d f) :: G1))) (.sl (HG ++ F1).length 0 c.m c.m) c.m fun j => .int .i64 (resF d f j) := TB.own (G := []) (m := .ex) (by simp [rI])
  have hR := hR.app (F1 ++ (rI c.m (resF d f) :: G1))
  have hC := hC.app (F1 ++ (rI c.m (resF d f) :: G1))
  have hD := hD.app (F1 ++ (rI c.m (resF d f) :: G1))
  have gc := get_pre (X := F1 ++ (rI c.m (resF d f) :: G1)) gc
  have gd := get_pre (X := F1 ++ (rI c.m (resF d f) :: G1)) gd
  refine wa_rg [(9, .ptr k9 0), (10, .int .i64 0), (11, .ptr k11 0), (12, .int .i64 0), (13, .sl k13 0 c.m c.m), (14, .int .i64 0), (15, .sl (HG ++ F1).length 0 c.m c.m), (16, .int .i64 0)] (by simp [Rg, t9, t10, t11, t12, t13, t14]) ?_
  change ∀ τ', Rg τ' _ → WP E _ ⟨τ', HG ++ (F1 ++ (rI c.m (resF d f) :: G1))⟩ _
  generalize HG ++ (F1 ++ (rI c.m (resF d f) :: G1)) = HI at *
  generalize (HG ++ F1).length = k15 at *
  clear e1 c9 t8 t9 t10 t11 t12 t13 t14 τ
  rintro τ ⟨t9, t10, t11, t12, t13, t14, t15, t16, -⟩
  dsimp only at t9 t10 t11 t12 t13 t14 t15 t16
  -- both rows beside one another
  have cr : ∀ X o, rd (HI ++ X) k9 o = [V.int .i64 c.N, .int .i64 c.S, .int .i64 c.T, xc.x1, xc.x2, xc.x3, xc.x4, xc.x5, xc.x6][o]? := fun X o => rd_pre gc
  have dr : ∀ X o, rd (HI ++ X) k11 o = [V.int .i64 d.N, .int .i64 d.S, .int .i64 d.T, xd.x1, xd.x2, xd.x3, xd.x4, xd.x5, xd.x6][o]? := fun X o => rd_pre gd
  have cre := cr []
  have dre := dr []
  simp only [List.append_nil] at cre dre
  have D1 : TB HI xd.x1 (c.vs + 1) fun j => .int .i64 (c.first j) := by rw [hvv]; exact hD.f1.congr fun j _ => by rw [hfst]
  have D5 : TB HI xd.x5 c.m fun j => .int .i64 (c.arc j) := by
    rw [hmm]
    exact hD.f5.congr fun j hj => by obtain ⟨k, u, v, b, h, h1, h2, h3, _⟩ := hat j (by omega); rw [h3, h.arc]
  have D2 : TB HI xd.x2 c.m fun j => .int .i64 (c.head j) := by
    rw [hmm]
    exact hD.f2.congr fun j hj => by obtain ⟨k, u, v, b, h, h1, h2, h3, _⟩ := hat j (by omega); rw [h1, h.head]
  have D3 : TB HI xd.x3 c.m fun j => .int .i64 (c.rev j) := by
    rw [hmm]
    exact hD.f3.congr fun j hj => by obtain ⟨k, u, v, b, h, h1, h2, h3, _⟩ := hat j (by omega); rw [h2, h.rev]
  obtain ⟨p1, q1⟩ := pc_ints hC.f1 D1 (by omega)
  obtain ⟨p2, q2⟩ := pc_ints hC.f5 D5 (by omega)
  obtain ⟨p3, q3⟩ := pc_ints hC.f2 D2 (by omega)
  obtain ⟨p4, q4⟩ := pc_ints hC.f3 D3 (by omega)
  have q1e := q1 []
  rw [List.append_nil, List.nil_append] at q1e
  refine wa_sr ⟨_, by simp -implicitDefEqProofs [t9, t10, t11, t12, t14, t16, cr, cre, dr, dre, q1, q1e, q2, q3, q4]; rfl, ?_⟩
  refine wa_if (t := false) (by simp) (fun h => by cases h) (fun _ => ?_)
  refine wa_rh [(9, .ptr k9 0), (11, .ptr k11 0), (13, .sl k13 0 c.m c.m), (15, .sl k15 0 c.m c.m)] HI (by simp [Rg, t9, t11, t13, t15]) ⟨_, rfl⟩ ?_
  clear t9 t10 t11 t12 t13 t14 t15 t16 τ q1 q1e q2 q3 q4
  rintro τ G0 ⟨t9, t11, t13, t15, -⟩
  dsimp only at t9 t11 t13 t15
  refine wa_sr ⟨_, by simp -implicitDefEqProofs [t9, cr, hC.f6.len]; rfl, ?_⟩
  refine wa_cut (fun s => Rg s.τ [(9, .ptr k9 0), (11, .ptr k11 0)] ∧ s.H = HI ++ G0) ?_ ?_
  · refine wa_for (n := c.m) (fun i (_ : Unit) => [(9, .ptr k9 0), (11, .ptr k11 0), (13, .sl k13 0 c.m c.m), (15, .sl k15 0 c.m c.m)]) (fun i _ H' => H' = HI ++ G0) ()
      (by decide) (fun i hi => w64 (by omega) (by omega)) (by simp) (by simp) (by simp [Rg, t9, t11, t13, t15]) rfl (by simp) ?_ ?_
    · clear t9 t11 t13 t15 τ
      rintro i _ τ _ hi t121 t120 ⟨t9, t11, t13, t15, -⟩ rfl
      dsimp only [ev] at *
      obtain ⟨k, u, v, b, h, h1, h2, h3, h4, h5, h6, h7⟩ := hat i hi
      have hbm := h.hb
      obtain ⟨q6, o6, c6, e6, r6⟩ := hC.f6.at hi
      obtain ⟨q6', o6', c6', e6', r6'⟩ := hD.f6.at (show i < d.m by omega)
      obtain ⟨q5, o5, c5, e5, r5⟩ := hC.f3.at hi
      rw [h.rev] at r5
      rw [h4] at r6'
      obtain ⟨qr, or', cr', er, rr⟩ := hR.at hi
      obtain ⟨qs, os, cs, es, rs⟩ := hS.at hbm
      cases er
      cases es
      have hres : resF c f i = resF d f b := by
        rw [resF_at h]
        unfold resF
        rw [h5, h6, h7]
        simp only [Int.toNat_natCast]
      rw [hres, Nat.zero_add] at rr
      rw [Nat.zero_add] at rs
      rw [← hmm] at e6'
      have hnb : (c.back i == !c.back i) = false := by cases c.back i <;> rfl
      refine wa_sr ⟨_, by simp [t121]; rfl, ?_⟩
      refine wa_dr rfl rfl ⟨_, by simp -implicitDefEqProofs [t121, t9, t11, t13, t15, cr, dr, e6, e6', hi, hbm, r6, r6', e5, r5, rr, rs, hnb]; rfl, ?_⟩
      refine wa_cond (t := false) (by simp) (fun h => by cases h) (fun _ => wa_skip ?_)
      exact ⟨by simp [t121], by simp [t120], (), by simp [Rg, t9, t11, t13, t15], rfl⟩
    · rintro _ τ H' ⟨t9, t11, -⟩ h'
      exact ⟨by simp [Rg, t9, t11], h'⟩
  clear t9 t11 t13 t15 τ
  rintro ⟨τ, H'⟩ ⟨⟨t9, t11, -⟩, h'⟩
  dsimp only at t9 t11 h'
  subst h'
  obtain ⟨f2, g2⟩ := (pc_len (c := c) (x := xc) (H := prot [] HI) hC.f2.len).pc0
  have hcv : CVal c xc = .agg [.int .i64 c.N, .int .i64 c.S, .int .i64 c.T, xc.x1, xc.x2, xc.x3, xc.x4, xc.x5, xc.x6] := rfl
  rw [hcv] at g2
  have c9 : ∀ X, rdn (HI ++ X) k9 0 9 = some [.int .i64 c.N, .int .i64 c.S, .int .i64 c.T, xc.x1, xc.x2, xc.x3, xc.x4, xc.x5, xc.x6] := fun X => rdn_all gc rfl
  have ld6 : lenOf xd.x6 = some c.m := by rw [hmm]; exact hD.f6.len
  refine wa_seq (wa_dreg (s' := _) (by
    simp -implicitDefEqProofs [dinsL, dins, t9, t11, cr, dr, c9, g2, hC.f6.len, ld6, call_yes (k := 50) rfl]
    rfl) (by simp) ?_)
  exact wa_ret ⟨by simp, _, by simp; rfl, rfl⟩
end Go.Proofs.Ytpojdgeginigjaa
