/- Forward; CsrRows: the walks. -/
import Derived.Test.YtpojdgeginigjaaMCm
set_option linter.unusedSimpArgs false
set_option linter.unusedVariables false
namespace Go.Proofs.Ytpojdgeginigjaa
open Go Go.Ar
set_option maxRecDepth 100000

def FwdI (c : Csr) (i : Nat) (g : Nat → Int) : Prop := (∀ a : Nat, a < i → c.back a = false → g (c.arc a).toNat = (a : Int)) ∧ ∀ k, (∀ a, a < i → c.back a = false → (c.arc a).toNat ≠ k) → g k = -1
theorem csr_injF {n : Net} {c : Csr} (h : IsCsr n c) : ∀ a b, a < c.m → b < c.m → c.back a = false → c.back b = false → c.arc a = c.arc b → a = b := fun a b ha hb h1 h2 h3 => by
  obtain ⟨k, u, v, b', p⟩ := csr_at h ha
  obtain ⟨k', u', v', b'', q⟩ := csr_at h hb
  have e : k = k' := by have := p.arc; have := q.arc; omega
  subst e
  rcases p.two with ⟨_, _, e1, _⟩ | ⟨e, _⟩
  · rcases q.two with ⟨_, _, e2, _⟩ | ⟨e, _⟩
    · rw [p.ea, q.ea]
      have : u = u' := by omega
      rw [this]
    · rw [e] at h2; cases h2
  · rw [e] at h1; cases h1

set_option maxHeartbeats 4000000 in
theorem forward_ok {c : Csr} {x : CV} {nf : Nat} {H : Heap} (h : CA H c x) (hm : c.m ≤ 2 ^ 20) (hnf : nf ≤ 16384) (hk : ∀ a, a < c.m → ∃ k : Nat, c.arc a = k ∧ k < nf) (hinj : ∀ a b, a < c.m → b < c.m → c.back a = false → c.back b = false → c.arc a = c.arc b → a = b) :
    ∃ g F G, FwdI c c.m g ∧ callL E (.f 62) [CVal c x, .int .i64 nf] H = some (.sl (H ++ F).length 0 nf nf, (H ++ F) ++ (rI nf g :: G)) := by
  have key : ∃ v H', callL E (.f 62) [CVal c x, .int .i64 nf] H = some (v, H') ∧ ∃ g F G, FwdI c c.m g ∧ v = .sl (H ++ F).length 0 nf nf ∧ H' = (H ++ F) ++ (rI nf g :: G) := by
    refine call_E rfl nc62 rfl ?_
    unfold gc62
    obtain ⟨f1, g1⟩ := pc_len (c := c) (x := x) (H := H) h.f2.len
    have hcb : CVal c x = .agg [.int .i64 c.N, .int .i64 c.S, .int .i64 c.T, x.x1, x.x2, x.x3, x.x4, x.x5, x.x6] := rfl
    rw [hcb] at g1 ⊢
    have hn0 : ¬ ((nf : Int) < 0) := by omega
    have hn1 : ¬ ((16384 : Int) < nf) := by omega
    refine wa_sr ⟨_, by simp; rfl, ?_⟩
    refine wa_sr ⟨_, by simp -implicitDefEqProofs [hn0, hn1]; rfl, ?_⟩
    refine wa_if (t := false) (by simp) (fun h => by cases h) (fun _ => ?_)
    have hrep := repeat_ok (x := .sl (H.length + 1) 0 1 1) (v := -1) (n := nf) (H := H ++ [cbox c x, .cells [.int .i64 (-1)] .ex]) ⟨rfl, by simp [cellsOf, tb]⟩ (by omega)
    simp only [List.length_append, List.append_assoc, List.cons_append, List.nil_append, List.length_cons, List.length_nil, Nat.zero_add, Nat.reduceAdd] at hrep
    unfold cbox at hrep
    refine wa_sr ⟨_, by simp -implicitDefEqProofs [fillc, hrep]; rfl, ?_⟩
    refine wa_sr ⟨_, by simp -implicitDefEqProofs [g1]; rfl, ?_⟩
    generalize f1 _ = F1
    change WP E _ ⟨_, H ++ (cbox c x :: .cells [.int .i64 (-1)] .ex :: rI nf (fun _ => -1) :: F1)⟩ _
    refine wa_cut (fun s => (∃ g, FwdI c c.m g ∧ s.H = H ++ (cbox c x :: .cells [.int .i64 (-1)] .ex :: rI nf g :: F1)) ∧ s.τ 5 = .sl (H.length + 2) 0 nf nf) ?_ ?_
    · refine wa_for (n := c.m) (fun i (_ : Nat → Int) => [(1, .int .i64 nf), (2, .ptr H.length 0), (5, .sl (H.length + 2) 0 nf nf)]) (fun i g H' => FwdI c i g ∧ H' = H ++ (cbox c x :: .cells [.int .i64 (-1)] .ex :: rI nf g :: F1)) (fun _ => -1)
        (by decide) (fun i hi => w64 (by omega) (by omega)) (by simp) (by simp) (by simp [Rg]) ⟨⟨fun a ha => by omega, fun _ _ => rfl⟩, rfl⟩ (by simp) ?_ ?_
      · rintro i g τ _ hi t19 t18 ⟨t1, t2, t5, -⟩ ⟨hg, rfl⟩
        dsimp only [ev] at *
        obtain ⟨k, hka, hkn⟩ := hk i hi
        obtain ⟨k5, o5, c5, e5, r5⟩ := h.f5.at hi
        obtain ⟨k6, o6, c6, e6, r6⟩ := h.f6.at hi
        rw [hka] at r5
        have hkn2 : k + 1 ≤ nf := hkn
        refine wa_sr ⟨_, by simp [t19]; rfl, ?_⟩
        refine wa_sr ⟨_, by simp -implicitDefEqProofs [t2, t19, cbox, e5, hi, r5]; rfl, ?_⟩
        by_cases hb : c.back i = true
        · rw [hb] at r6
          refine wa_sr ⟨_, by simp -implicitDefEqProofs [t2, t19, cbox, e6, hi, r6]; rfl, ?_⟩
          refine wa_cond (t := false) (by simp) (fun h => by cases h) (fun _ => wa_skip ?_)
          refine ⟨by simp [t19], by simp [t18], g, by simp [Rg, t1, t2, t5], ⟨fun a ha hba => ?_, fun k' hk' => ?_⟩, by simp only [cbox, rI, e5, e6]⟩
          · by_cases e1 : a = i
            · subst e1; rw [hb] at hba; cases hba
            · exact hg.1 a (by omega) hba
          · exact hg.2 k' fun a ha hba => hk' a (by omega) hba
        · have hb' : c.back i = false := by simpa using hb
          rw [hb'] at r6
          have e : ∀ j, (if j = k then V.int .i64 (i : Int) else V.int .i64 (g j)) = V.int .i64 (fupd g k (i : Int) j) := fun j => by unfold fupd; split <;> rfl
          refine wa_sr ⟨_, by simp -implicitDefEqProofs [t1, t2, t19, cbox, e6, hi, r6, hkn]; rfl, ?_⟩
          refine wa_cond (t := true) (by simp) (fun _ => ?_) (fun h => by cases h)
          refine wa_regs ⟨_, by simp -implicitDefEqProofs [t5, t19, cbox, rI, hkn, hkn2, e]; rfl, ?_⟩
          refine ⟨by simp [t19], by simp [t18], fupd g k (i : Int), by simp [Rg, t1, t2, t5], ⟨fun a ha hba => ?_, fun k' hk' => ?_⟩, by simp only [cbox, rI, e5, e6]⟩
          · unfold fupd
            by_cases e1 : a = i
            · subst e1; rw [hka]; simp
            · rw [if_neg fun h5 => e1 (hinj a i (by omega) hi hba hb' (by obtain ⟨k', q1, _⟩ := hk a (by omega); rw [q1] at h5 ⊢; rw [hka]; simp at h5; rw [h5]))]
              exact hg.1 a (by omega) hba
          · unfold fupd
            have := hk' i (by omega) hb'
            rw [hka] at this
            simp at this
            rw [if_neg (fun e => this e.symm)]
            exact hg.2 k' fun a ha hba => hk' a (by omega) hba
      · rintro g τ H' ⟨t1, t2, t5, -⟩ ⟨hg, rfl⟩
        exact ⟨⟨g, hg, rfl⟩, t5⟩
    · rintro ⟨τ, H'⟩ ⟨⟨g, hg, h'⟩, t5⟩
      dsimp only at h' t5
      subst h'
      refine wa_sr ⟨_, by simp -implicitDefEqProofs [t5]; rfl, ?_⟩
      exact wa_ret ⟨by simp, _, by simp; rfl, g, [cbox c x, .cells [.int .i64 (-1)] .ex], F1, hg, by simp [pack], by simp⟩
  obtain ⟨v, H', h1, g, F, G, hg, rfl, rfl⟩ := key
  exact ⟨g, F, G, hg, h1⟩

/-- How many of the first residual arcs are of arc k. -/
def cntA (c : Csr) : Nat → Nat → Nat
  | 0, _ => 0
  | p + 1, k => cntA c p k + if (c.arc p).toNat = k then 1 else 0
theorem cntA_le (c : Csr) (k : Nat) : ∀ p, cntA c p k ≤ p
  | 0 => Nat.le_refl _
  | p + 1 => by have := cntA_le c k p; simp only [cntA]; split <;> omega
theorem cntA_no {c : Csr} {k : Nat} : ∀ p, (∀ a, a < p → (c.arc a).toNat ≠ k) → cntA c p k = 0
  | 0, _ => rfl
  | p + 1, h => by
    simp only [cntA, cntA_no p fun a ha => h a (by omega)]
    rw [if_neg (h p (by omega))]
theorem cntA_two {c : Csr} {k p q : Nat} (hpq : p ≠ q) : ∀ N, (∀ a, a < N → ((c.arc a).toNat = k ↔ a = p ∨ a = q)) → cntA c N k = (if p < N then 1 else 0) + (if q < N then 1 else 0)
  | 0, _ => rfl
  | N + 1, h => by
    simp only [cntA, cntA_two hpq N fun a ha => h a (by omega)]
    have := h N (by omega)
    by_cases e : (c.arc N).toNat = k
    · rw [if_pos e]
      rcases this.1 e with e1 | e1 <;> subst e1 <;> (repeat' split) <;> omega
    · rw [if_neg e]
      have e1 : ¬ N = p := fun e' => e (this.2 (.inl e'))
      have e2 : ¬ N = q := fun e' => e (this.2 (.inr e'))
      (repeat' split) <;> omega
theorem cntA_all {n : Net} {c : Csr} (hI : IsCsr n c) {k : Nat} (hk : k < n.arcs.length) : cntA c c.m k = if n.arcs[k].src = n.arcs[k].dst then 0 else 2 := by
  obtain ⟨s, d, e1, e2, hs, hd⟩ := hI.inn _ (List.getElem_mem hk)
  by_cases hne : s = d
  · rw [if_pos (by omega)]
    refine cntA_no _ fun a ha e => ?_
    obtain ⟨k', u, v, b, h⟩ := csr_at hI ha
    rw [h.arc] at e
    simp only [Int.toNat_natCast] at e
    subst e
    have := h.iu
    rw [inc_iff] at this
    omega
  · rw [if_neg (by omega)]
    obtain ⟨i1, i2⟩ := inc_l e1 e2 hne
    obtain ⟨⟨_, _, _, g1, _⟩, _, _, _, g4, _⟩ := hI.fil k hk hk s d e1 e2 hne
    have l1 : pos n.arcs k s < c.m := by rw [hI.m]; have := pos_lt hk i1; have := fst_mono n.arcs (show s + 1 ≤ c.vs from hs); omega
    have l2 : pos n.arcs k d < c.m := by rw [hI.m]; have := pos_lt hk i2; have := fst_mono n.arcs (show d + 1 ≤ c.vs from hd); omega
    have hpq : pos n.arcs k s ≠ pos n.arcs k d := fun e => hne (pos_inj hk hk i1 i2 e).2
    rw [cntA_two hpq c.m fun a ha => ⟨fun e => ?_, fun e => ?_⟩, if_pos l1, if_pos l2]
    · obtain ⟨k', u, v, b, h⟩ := csr_at hI ha
      rw [h.arc] at e
      simp only [Int.toNat_natCast] at e
      subst e
      have hu := h.iu
      rw [inc_iff] at hu
      have : u = s ∨ u = d := by omega
      rcases this with rfl | rfl
      · exact .inl h.ea
      · exact .inr h.ea
    · rcases e with rfl | rfl
      · rw [g1]; simp
      · rw [g4]; simp
/-- At which vertex a residual arc stands. -/
theorem at_vertex {n : Net} {c : Csr} {a k u v b w : Nat} (h : At n c a k u v b) (h1 : fst n.arcs w ≤ a) (h2 : a < fst n.arcs (w + 1)) : u = w := by
  have p1 := pos_ge n.arcs k u
  have p2 := pos_lt h.hk h.iu
  rw [← h.ea] at p1 p2
  rcases Nat.lt_trichotomy u w with h3 | h3 | h3
  · have := fst_mono n.arcs (show u + 1 ≤ w from h3); omega
  · exact h3
  · have := fst_mono n.arcs (show w + 1 ≤ u from h3); omega

set_option maxHeartbeats 8000000 in
theorem csrrows_law {H : Heap} {n : Net} {a : V} (hin : NetIn H n a) : ∃ v H', callL E (.f 18) [NV n a] H = some (v, H') ∧ v = .bool true := by
  refine call_E rfl nc18 rfl ?_
  unfold gc18
  obtain ⟨hc0, hlen, hN2, hN40, hcap⟩ := some_facts (n := n) (vs := 40) (m := 80) (by omega) (by omega) (by omega) (fun x hx => (hin.arc x hx).2.2)
  obtain ⟨x, H1, HA, s1, s2, gb, hA, hSl, hHp, hxs⟩ := some_pre hin (vs := 40) (ms := 80) (m := 80) rfl (by omega) (by omega) (by omega)
  have hcb := capB_some hcap
  generalize someN n 40 80 = m at *
  obtain ⟨c, xc, G, e1, hC, hI, _⟩ := make_ok hA hc0
  have hcm := csr_m hI
  have hmN := hI.vs
  have hvs : c.vs ≤ 40 := by omega
  unfold NV nbox at s1
  unfold NV at e1 ⊢
  have hl : lenOf a = some n.arcs.length := Rw.len hin.al
  refine wa_sr ⟨_, by simp [len_cells hl]; rfl, ?_⟩
  refine wa_sr ⟨_, by simp -implicitDefEqProofs [s1, s2, hxs]; rfl, ?_⟩
  have b4 := rdn_all (X := []) (n := 4) gb rfl
  rw [List.append_nil] at b4
  unfold CVal at e1
  have hA := hA.app G
  have gb := get_pre (X := G) gb
  generalize HA ++ G = HZ at *
  refine wa_sr ⟨_, by simp -implicitDefEqProofs [b4, e1, hC.s1, hC.s2, hC.s3, hC.s4, hC.s5, hC.s6]; rfl, ?_⟩
  have hA := hA.app [cbox c xc]
  have gb := get_pre (X := [cbox c xc]) gb
  have hC := hC.app [cbox c xc]
  have gc : (HZ ++ [cbox c xc])[HZ.length]? = some (cbox c xc) := by simp
  refine wa_rg [(1, .ptr H.length 0), (3, .ptr HZ.length 0), (4, .int .i64 0)] (by simp [Rg]) ?_
  change ∀ τ', Rg τ' _ → WP E _ ⟨τ', HZ ++ [cbox c xc]⟩ _
  generalize HZ ++ [cbox c xc] = HB at *
  generalize HZ.length = k3 at *
  generalize H.length = k1 at *
  clear e1 s1 s2 b4
  rintro τ ⟨t1, t3, t4, -⟩
  dsimp only at t1 t3 t4
  obtain ⟨f2, g2⟩ := (pc_len (c := c) (x := xc) (H := prot [] HB) hC.f2.len).pc0
  have g2e := g2 []
  rw [List.append_nil, List.nil_append] at g2e
  have hcv : CVal c xc = .agg [.int .i64 c.N, .int .i64 c.S, .int .i64 c.T, xc.x1, xc.x2, xc.x3, xc.x4, xc.x5, xc.x6] := rfl
  rw [hcv] at g2 g2e
  have c9 : ∀ X, rdn (HB ++ X) k3 0 9 = some [.int .i64 c.N, .int .i64 c.S, .int .i64 c.T, xc.x1, xc.x2, xc.x3, xc.x4, xc.x5, xc.x6] := fun X => rdn_all gc rfl
  have cr : ∀ X o, rd (HB ++ X) k3 o = [V.int .i64 c.N, .int .i64 c.S, .int .i64 c.T, xc.x1, xc.x2, xc.x3, xc.x4, xc.x5, xc.x6][o]? := fun X o => rd_pre gc
  have br : ∀ X o, rd (HB ++ X) k1 o = [V.int .i64 m.N, .int .i64 m.S, .int .i64 m.T, x][o]? := fun X o => rd_pre gb
  have c9e := c9 []
  have cre := cr []
  have bre := br []
  rw [List.append_nil] at c9e
  simp only [List.append_nil] at cre bre
  rw [hmN] at br bre
  obtain ⟨q1, o1, c1, e1, r1⟩ := hC.f1.at (show 0 < c.vs + 1 by omega)
  obtain ⟨q1', o1', c1', e1', r1'⟩ := hC.f1.at (show c.vs < c.vs + 1 by omega)
  rw [e1] at e1'
  cases e1'
  have r1e := r1 []
  have r1e' := r1' []
  rw [List.append_nil] at r1e r1e'
  rw [hI.fst] at r1e r1e'
  rw [← hI.m] at r1e'
  have hw1 : IntKind.i64.wrap ((c.vs : Int) + 1) = (c.vs : Int) + 1 := w64 (by omega) (by omega)
  have hv1 : (c.vs : Int) < (c.vs : Int) + 1 := by omega
  have hv0 : (0 : Int) < (c.vs : Int) + 1 := by omega
  have hf0 : (fst m.arcs 0 : Int) = 0 := rfl
  rw [hf0, Nat.add_zero] at r1e
  have hl1 : lenOf (.sl q1 o1 (c.vs + 1) c1) = some (c.vs + 1) := rfl
  have g2e' := g2e
  rw [e1] at g2e' 
  refine wa_seq (wa_dreg (s' := _) (by
    simp -implicitDefEqProofs [dinsL, dins, t4, t3, t1, cre, bre, c9e, e1, g2e', hw1, hv1, hv0, r1e, r1e']
    rfl) (by simp) ?_)
  refine wa_if (t := false) (by simp) (fun h => by cases h) (fun _ => ?_)
  refine wa_rh [(1, .ptr k1 0), (3, .ptr k3 0)] HB (by simp [Rg, t1, t3]) ⟨_, rfl⟩ ?_
  clear t1 t3 t4 τ g2 g2e g2e' c9 cr br c9e cre bre r1 r1' r1e r1e' hl1
  rintro τ G0 ⟨t1, t3, -⟩
  dsimp only at t1 t3
  have hA := hA.app G0
  have gb := get_pre (X := G0) gb
  have hC := hC.app G0
  have gc := get_pre (X := G0) gc
  generalize HB ++ G0 = HC at *
  have cr : ∀ X o, rd (HC ++ X) k3 o = [V.int .i64 c.N, .int .i64 c.S, .int .i64 c.T, xc.x1, xc.x2, xc.x3, xc.x4, xc.x5, xc.x6][o]? := fun X o => rd_pre gc
  have br : ∀ X o, rd (HC ++ X) k1 o = [V.int .i64 (c.vs : Int), .int .i64 m.S, .int .i64 m.T, x][o]? := fun X o => by rw [← hmN]; exact rd_pre gb
  have c9 : ∀ X, rdn (HC ++ X) k3 0 9 = some [.int .i64 c.N, .int .i64 c.S, .int .i64 c.T, xc.x1, xc.x2, xc.x3, xc.x4, xc.x5, xc.x6] := fun X => rdn_all gc rfl
  have bre := br []
  simp only [List.append_nil] at bre
  have hxl : lenOf x = some m.arcs.length := Rw.len hA
  have hlim : (m.arcs.length : Int) ≤ (lim : Nat) := by unfold lim; omega
  have hp2 : (m.arcs.length : Int) * 8 ≤ 1099511627776 := by omega
  refine wa_sr ⟨_, by simp -implicitDefEqProofs [t1, bre, hxl, hlim, hp2]; rfl, ?_⟩
  refine wa_sr ⟨_, by simp -implicitDefEqProofs [t1, br]; rfl, ?_⟩
  have h00 : (tb m.arcs.length fun _ => V.int .i64 0) = tb m.arcs.length fun j => V.int .i64 (cntA c (fst m.arcs 0) j : Nat) := tb_congr fun j _ => rfl
  refine wa_cut (fun s => (∃ G, s.H = HC ++ (rI m.arcs.length (fun j => (cntA c c.m j : Nat)) :: G)) ∧ Rg s.τ [(1, .ptr k1 0), (3, .ptr k3 0), (5, .sl HC.length 0 m.arcs.length m.arcs.length)]) ?_ ?_
  · refine wa_for (n := c.vs) (fun v (_ : Heap) => [(1, .ptr k1 0), (3, .ptr k3 0), (5, .sl HC.length 0 m.arcs.length m.arcs.length)]) (fun v G H' => H' = HC ++ (rI m.arcs.length (fun j => (cntA c (fst m.arcs v) j : Nat)) :: G)) []
      (by decide) (fun i hi => w64 (by omega) (by omega)) (by simp) (by simp) (by simp [Rg, t1, t3]) (by simp only [rI, ← h00]) (by simp) ?_ ?_
    · clear t1 t3 τ
      rintro v G τ _ hv t56 t55 ⟨t1, t3, t5, -⟩ rfl
      dsimp only [ev] at *
      obtain ⟨q1, o1, c1, e1, r1⟩ := hC.f1.at (show v < c.vs + 1 by omega)
      obtain ⟨q1', o1', c1', e1', r1'⟩ := hC.f1.at (show v + 1 < c.vs + 1 by omega)
      rw [e1] at e1'
      cases e1'
      rw [hI.fst] at r1 r1'
      have hmono := fst_mono m.arcs (show v ≤ v + 1 by omega)
      have hmono2 := fst_mono m.arcs (show v + 1 ≤ c.vs by omega)
      rw [← hI.m] at hmono2
      have wv : IntKind.i64.wrap ((v : Int) + 1) = (v : Int) + 1 := w64 (by omega) (by omega)
      have pv : (0 : Int) ≤ (v : Int) + 1 := by omega
      have uv : (v : Int) + 1 < (c.vs : Int) + 1 := by omega
      have uv2 : (v : Int) < (c.vs : Int) + 1 := by omega
      have tv : ((v : Int) + 1).toNat = v + 1 := by omega
      have hng : ¬ (fst m.arcs (v + 1) < fst m.arcs v) := by omega
      refine wa_sr ⟨_, by simp [t56]; rfl, ?_⟩
      refine wa_dr rfl rfl ⟨_, by simp -implicitDefEqProofs [t3, t56, cr, e1, wv, pv, uv, uv2, tv, r1, r1', hng]; rfl, ?_⟩
      refine wa_if (t := false) (by simp [hng]) (fun h => by cases h) (fun _ => ?_)
      refine wa_sr ⟨_, by simp -implicitDefEqProofs [t3, t56, cr, e1, uv2, r1]; rfl, ?_⟩
      refine wa_while (fun q s => ∃ (p : Nat) (G : Heap), q = fst m.arcs (v + 1) - p ∧ fst m.arcs v ≤ p ∧ p ≤ fst m.arcs (v + 1) ∧ s.H = HC ++ (rI m.arcs.length (fun j => (cntA c p j : Nat)) :: G) ∧ Rg s.τ [(1, .ptr k1 0), (3, .ptr k3 0), (5, .sl HC.length 0 m.arcs.length m.arcs.length), (56, .int .i64 v), (55, .int .i64 c.vs), (6, .int .i64 v), (7, .int .i64 p)]) (fst m.arcs (v + 1) - fst m.arcs v) ⟨fst m.arcs v, G, rfl, Nat.le_refl _, hmono, rfl, by simp [Rg, t1, t3, t5, t56, t55]⟩ ?_
      clear t1 t3 t5 t56 t55 τ G
      rintro q ⟨τ, _⟩ ⟨p, G, rfl, hp1, hp2', rfl, t1, t3, t5, t56, t55, t6, t7, -⟩
      dsimp only at t1 t3 t5 t56 t55 t6 t7
      refine ⟨_, decide (p < fst m.arcs (v + 1)), by simp -implicitDefEqProofs [t3, t6, t7, cr, e1, wv, pv, uv, tv, r1']; rfl, by simp, fun ht => ?_, fun ht => ?_⟩
      · have hlt : p < fst m.arcs (v + 1) := by simpa using ht
        have hpm : p < c.m := by omega
        obtain ⟨k, u, w, b, h⟩ := csr_at hI hpm
        obtain rfl := at_vertex h hp1 hlt
        have hkl := h.hk
        obtain ⟨ft, gt⟩ := tail_at hI (hC.app (rI m.arcs.length (fun j => (cntA c p j : Nat)) :: G)) h hpm (by omega) (by omega)
        have gte := gt []
        rw [List.append_nil, List.nil_append, hcv] at gte
        refine wa_sr ⟨_, by simp -implicitDefEqProofs [t3, t7, c9, gte]; rfl, ?_⟩
        refine wa_rg [(1, .ptr k1 0), (3, .ptr k3 0), (5, .sl HC.length 0 m.arcs.length m.arcs.length), (56, .int .i64 u), (55, .int .i64 c.vs), (6, .int .i64 u), (7, .int .i64 p), (8, .int .i64 u), (9, .bool true)] (by simp [Rg, t1, t3, t5, t56, t55, t6, t7]) ?_
        have hasc : HC ++ rI m.arcs.length (fun j => (cntA c p j : Nat)) :: G ++ ft [] = HC ++ (rI m.arcs.length (fun j => (cntA c p j : Nat)) :: (G ++ ft [])) := by simp
        clear t1 t3 t5 t56 t55 t6 t7 gt gte τ ht
        rintro τ ⟨t1, t3, t5, t56, t55, t6, t7, t8, t9, -⟩
        dsimp only at t1 t3 t5 t56 t55 t6 t7 t8 t9
        generalize G ++ ft [] = G' at *
        obtain ⟨q5, o5, c5, e5, r5⟩ := hC.f5.at hpm
        rw [h.arc] at r5
        have hcl := cntA_le c k p
        have wc : IntKind.i64.wrap ((cntA c p k : Int) + 1) = (cntA c p k : Int) + 1 := w64 (by omega) (by omega)
        have hk2 : k + 1 ≤ m.arcs.length := hkl
        have wp : IntKind.i64.wrap ((p : Int) + 1) = (p : Int) + 1 := w64 (by omega) (by omega)
        have hfun : (tb m.arcs.length fun j => if j = k then V.int .i64 ((cntA c p k : Int) + 1) else V.int .i64 (cntA c p j : Nat)) = tb m.arcs.length fun j => V.int .i64 (cntA c (p + 1) j : Nat) := tb_congr fun j _ => by
          simp only [cntA]
          rw [h.arc]
          simp only [Int.toNat_natCast]
          by_cases e : j = k
          · subst e; simp
          · rw [if_neg e, if_neg (fun e' => e e'.symm)]; simp
        refine wa_cut (fun s => s.H = HC ++ (rI m.arcs.length (fun j => (cntA c p j : Nat)) :: G') ∧ Rg s.τ [(1, .ptr k1 0), (3, .ptr k3 0), (5, .sl HC.length 0 m.arcs.length m.arcs.length), (56, .int .i64 u), (55, .int .i64 c.vs), (6, .int .i64 u), (7, .int .i64 p), (121, .bool false)]) ?_ ?_
        · by_cases hgt : fst m.arcs u < p
          · obtain ⟨k', u', w', b', h'⟩ := csr_at hI (show p - 1 < c.m by omega)
            obtain rfl := at_vertex h' (show fst m.arcs u ≤ p - 1 by omega) (by omega)
            obtain ⟨q5', o5', c5', e5', r5'⟩ := hC.f5.at (show p - 1 < c.m by omega)
            rw [e5] at e5'
            cases e5'
            rw [h'.arc] at r5'
            have hkk : k' < k := by
              rcases Nat.lt_or_ge k' k with h5 | h5
              · exact h5
              · have := pos_mono (l := m.arcs) (v := u') h5
                have := h.ea
                have := h'.ea
                omega
            have hkk2 : ¬ (k ≤ k') := by omega
            have wp1 : IntKind.i64.wrap ((p : Int) - 1) = ((p - 1 : Nat) : Int) := by rw [w64 (by omega) (by omega)]; omega
            have hp1m : p - 1 < c.m := by omega
            refine wa_drl rfl rfl ⟨_, by simp -implicitDefEqProofs [t3, t6, t7, t8, t9, cr, e1, uv2, r1, hgt, e5, wp1, hp1m, hpm, r5, r5', hkk2]; rfl, rfl, by simp [Rg, t1, t3, t5, t56, t55, t6, t7]⟩
          · refine wa_drl rfl rfl ⟨_, by simp -implicitDefEqProofs [t3, t6, t7, t8, t9, cr, e1, uv2, r1, hgt]; rfl, rfl, by simp [Rg, t1, t3, t5, t56, t55, t6, t7]⟩
        · clear t1 t3 t5 t56 t55 t6 t7 t8 t9 τ
          rintro ⟨τ, H'⟩ ⟨hH', t1, t3, t5, t56, t55, t6, t7, t121, -⟩
          dsimp only at hH' t1 t3 t5 t56 t55 t6 t7 t121
          subst hH'
          refine wa_if (t := false) (by simp [t121]) (fun h => by cases h) (fun _ => ?_)
          refine wa_regs ⟨_, by simp -implicitDefEqProofs [t3, t5, t7, cr, e5, hpm, r5, rI, hkl, hk2, wc]; rfl, ?_⟩
          refine ⟨_, by simp -implicitDefEqProofs [t7, wp]; rfl, fst m.arcs (u + 1) - (p + 1), by omega, p + 1, G', rfl, by omega, by omega, ?_, by simp [Rg, t1, t3, t5, t56, t55, t6]⟩
          simp only [rI, ← hfun]
      · have hge : ¬ p < fst m.arcs (v + 1) := by simpa using ht
        have : p = fst m.arcs (v + 1) := by omega
        subst this
        exact ⟨by simp [t56], by simp [t55], G, by simp [Rg, t1, t3, t5], rfl⟩
    · rintro G τ H' ⟨t1, t3, t5, -⟩ h'
      rw [← hI.m] at h'
      exact ⟨⟨G, h'⟩, by simp [Rg, t1, t3, t5]⟩
  clear t1 t3 τ
  rintro ⟨τ, H'⟩ ⟨⟨G, hH'⟩, t1, t3, t5, -⟩
  dsimp only at hH' t1 t3 t5
  subst hH'
  -- forward
  have hCm := hC.app (rI m.arcs.length (fun j => (cntA c c.m j : Nat)) :: G)
  obtain ⟨g, F, G2, hg, e1'⟩ := forward_ok (nf := m.arcs.length) hCm (by omega) (by omega) (csr_k hI) (csr_injF hI)
  rw [hcv] at e1'
  simp only [List.append_assoc, List.cons_append] at e1'
  refine wa_sr ⟨_, by simp -implicitDefEqProofs [t1, t3, c9, br, hxl, e1']; rfl, ?_⟩
  have gF : (HC ++ rI m.arcs.length (fun j => (cntA c c.m j : Nat)) :: (G ++ (F ++ rI m.arcs.length g :: G2)))[(HC ++ rI m.arcs.length (fun j => (cntA c c.m j : Nat)) :: (G ++ F)).length]? = some (rI m.arcs.length g) := by
    have : HC ++ rI m.arcs.length (fun j => (cntA c c.m j : Nat)) :: (G ++ (F ++ rI m.arcs.length g :: G2)) = (HC ++ rI m.arcs.length (fun j => (cntA c c.m j : Nat)) :: (G ++ F)) ++ rI m.arcs.length g :: G2 := by simp
    rw [this]; simp
  have gM : (HC ++ rI m.arcs.length (fun j => (cntA c c.m j : Nat)) :: (G ++ (F ++ rI m.arcs.length g :: G2)))[HC.length]? = some (rI m.arcs.length (fun j => (cntA c c.m j : Nat))) := by simp
  have hA := hA.app (rI m.arcs.length (fun j => (cntA c c.m j : Nat)) :: (G ++ (F ++ rI m.arcs.length g :: G2)))
  have hC := hC.app (rI m.arcs.length (fun j => (cntA c c.m j : Nat)) :: (G ++ (F ++ rI m.arcs.length g :: G2)))
  have gb := get_pre (X := rI m.arcs.length (fun j => (cntA c c.m j : Nat)) :: (G ++ (F ++ rI m.arcs.length g :: G2))) gb
  have gc := get_pre (X := rI m.arcs.length (fun j => (cntA c c.m j : Nat)) :: (G ++ (F ++ rI m.arcs.length g :: G2))) gc
  have hkF : (HC ++ rI m.arcs.length (fun j => (cntA c c.m j : Nat)) :: (G ++ F)).length = HC.length + (G.length + F.length + 1) := by simp
  refine wa_rg [(1, .ptr k1 0), (3, .ptr k3 0), (5, .sl HC.length 0 m.arcs.length m.arcs.length), (10, .sl (HC ++ rI m.arcs.length (fun j => (cntA c c.m j : Nat)) :: (G ++ F)).length 0 m.arcs.length m.arcs.length)] (by simp [Rg, t1, t3, t5]; try omega) ?_
  change ∀ τ', Rg τ' _ → WP E _ ⟨τ', HC ++ rI m.arcs.length (fun j => (cntA c c.m j : Nat)) :: (G ++ (F ++ rI m.arcs.length g :: G2))⟩ _
  clear cr br bre c9 e1' t1 t3 t5 τ hkF hCm
  generalize (HC ++ rI m.arcs.length (fun j => (cntA c c.m j : Nat)) :: (G ++ F)).length = kF at *
  generalize HC ++ rI m.arcs.length (fun j => (cntA c c.m j : Nat)) :: (G ++ (F ++ rI m.arcs.length g :: G2)) = HD at *
  generalize HC.length = kM at *
  rintro τ ⟨t1, t3, t5, t10, -⟩
  dsimp only at t1 t3 t5 t10
  have cr : ∀ X o, rd (HD ++ X) k3 o = [V.int .i64 c.N, .int .i64 c.S, .int .i64 c.T, xc.x1, xc.x2, xc.x3, xc.x4, xc.x5, xc.x6][o]? := fun X o => rd_pre gc
  have br : ∀ X o, rd (HD ++ X) k1 o = [V.int .i64 m.N, .int .i64 m.S, .int .i64 m.T, x][o]? := fun X o => rd_pre gb
  have bre := br []
  simp only [List.append_nil] at bre
  refine wa_sr ⟨_, by simp -implicitDefEqProofs [t1, t10, bre, hxl]; rfl, ?_⟩
  refine wa_if (t := false) (by simp) (fun h => by cases h) (fun _ => ?_)
  refine wa_sr ⟨_, by simp -implicitDefEqProofs [t1, bre, hxl]; rfl, ?_⟩
  have mr : ∀ X (j : Nat), j < m.arcs.length → rd (HD ++ X) kM j = some (.int .i64 (cntA c c.m j : Nat)) := fun X j hj => by rw [rd_pre gM]; simp [hj]
  have fr : ∀ X (j : Nat), j < m.arcs.length → rd (HD ++ X) kF j = some (.int .i64 (g j)) := fun X j hj => by rw [rd_pre gF]; simp [hj]
  refine wa_cut (fun s => True) ?_ ?_
  · refine wa_for (n := m.arcs.length) (fun i (_ : Heap) => [(3, .ptr k3 0), (5, .sl kM 0 m.arcs.length m.arcs.length), (10, .sl kF 0 m.arcs.length m.arcs.length), (145, x)]) (fun i G H' => H' = HD ++ G) []
      (by decide) (fun i hi => w64 (by omega) (by omega)) (by simp) (by simp) (by simp [Rg, t3, t5, t10]) (by simp) (by simp) ?_ ?_
    · clear t1 t3 t5 t10 τ
      rintro i G τ _ hi t147 t146 ⟨t3, t5, t10, t145, -⟩ rfl
      dsimp only [ev] at *
      obtain ⟨ka, o, cc, rfl, hka, hr, _⟩ := hA.at hi
      have hcn := cntA_all hI hi
      obtain ⟨s, d, e1, e2, hs, hd⟩ := hI.inn _ (List.getElem_mem hi)
      have hfi := hI.fil i hi hi s d e1 e2
      have hg2 := hg.2 i
      have hlp : ∀ a, a < c.m → (c.arc a).toNat = i → s ≠ d := fun a ha he => by
        obtain ⟨k', u, v, b, h⟩ := csr_at hI ha
        rw [h.arc] at he
        simp only [Int.toNat_natCast] at he
        subst he
        have := h.iu
        rw [inc_iff] at this
        omega
      have hps : s ≠ d → pos m.arcs i s < c.m := fun hne => by
        obtain ⟨i1, i2⟩ := inc_l e1 e2 hne
        rw [hI.m]; have := pos_lt hi i1; have := fst_mono m.arcs (show s + 1 ≤ c.vs from hs); omega
      rw [e1, e2] at hcn
      generalize m.arcs[i] = ar at *
      obtain ⟨sr, ds, cp⟩ := ar
      dsimp only at e1 e2
      subst e1 e2
      simp only [Arc.cells] at hr
      refine wa_sr ⟨_, by simp -implicitDefEqProofs [t145, t147, hi, hr]; rfl, ?_⟩
      refine wa_sr ⟨_, by simp; rfl, ?_⟩
      refine wa_sr ⟨_, by simp -implicitDefEqProofs; rfl, ?_⟩
      by_cases hsd : s = d
      · subst hsd
        rw [if_pos rfl] at hcn
        have hgi : g i = -1 := hg2 fun a ha _ he => hlp a ha he rfl
        have m1 := fun X => mr X i hi
        have f1 := fun X => fr X i hi
        rw [hcn] at m1
        rw [hgi] at f1
        refine wa_if (t := true) (by simp) (fun _ => ?_) (fun h => by cases h)
        refine wa_sr ⟨_, by simp; rfl, ?_⟩
        refine wa_dr rfl rfl ⟨_, by simp -implicitDefEqProofs [t5, t10, t147, hi, m1, f1]; rfl, ?_⟩
        refine wa_cond (t := false) (by simp) (fun h => by cases h) (fun _ => wa_skip ?_)
        exact ⟨by simp [t147], by simp [t146], G ++ [.cells [.int .i64 s, .int .i64 s, .int .i64 cp] .ex], by simp [Rg, t3, t5, t10, t145], by simp⟩
      · have hbs : ((s : Int) == (d : Int)) = false := by simp; omega
        rw [if_neg (by omega)] at hcn
        obtain ⟨⟨p1, p2, p3, p4, p5⟩, _⟩ := hfi hsd
        have hpm := hps hsd
        have hgi : g i = (pos m.arcs i s : Nat) := by
          have := hg.1 _ hpm p5
          rw [p4] at this
          simpa using this
        have m1 := fun X => mr X i hi
        have f1 := fun X => fr X i hi
        rw [hcn] at m1
        rw [hgi] at f1
        obtain ⟨q5, o5, c5, e5, r5⟩ := hC.f5.at hpm
        obtain ⟨q6, o6, c6, e6, r6⟩ := hC.f6.at hpm
        rw [p4] at r5
        rw [p5] at r6
        generalize pos m.arcs i s = p at *
        have hp0 : ¬ ((p : Int) < 0) := by omega
        refine wa_if (t := false) (by simp [hbs]) (fun h => by cases h) (fun _ => ?_)
        refine wa_dr rfl rfl ⟨_, by simp -implicitDefEqProofs [t3, t5, t10, t147, hi, m1, f1, hp0, cr, e5, e6, hpm, r5, r6]; rfl, ?_⟩
        refine wa_cond (t := false) (by simp) (fun h => by cases h) (fun _ => wa_skip ?_)
        exact ⟨by simp [t147], by simp [t146], G ++ [.cells [.int .i64 s, .int .i64 d, .int .i64 cp] .ex], by simp [Rg, t3, t5, t10, t145], by simp⟩
    · rintro G τ H' _ _; trivial
  · rintro ⟨τ, H'⟩ _
    refine wa_sr ⟨_, by simp -implicitDefEqProofs [call_yes (k := 50) rfl]; rfl, ?_⟩
    exact wa_ret ⟨by simp, _, by simp; rfl, rfl⟩
end Go.Proofs.Ytpojdgeginigjaa
