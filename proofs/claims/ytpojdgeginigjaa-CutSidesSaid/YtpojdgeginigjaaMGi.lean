/- CutAcross: the plain law, the walk. -/
import Derived.Test.YtpojdgeginigjaaMGh
set_option linter.unusedSimpArgs false
set_option linter.unusedVariables false
namespace Go.Proofs.Ytpojdgeginigjaa
open Go Go.Ar
set_option maxRecDepth 100000

/-- All that lies beyond a side, of the first v vertices. -/
def exS (s : Nat → Bool) (g : Nat → Int) : Nat → Int
  | 0 => 0
  | v + 1 => exS s g v + if s v = true then 0 else g v
theorem exS_add {s : Nat → Bool} {g h : Nat → Int} : ∀ n, exS s (fun v => g v + h v) n = exS s g n + exS s h n
  | 0 => rfl
  | n + 1 => by
    simp only [exS, exS_add (s := s) (g := g) (h := h) n]
    split <;> omega
theorem exS_neg {s : Nat → Bool} {g : Nat → Int} : ∀ n, exS s (fun v => -(g v)) n = -(exS s g n)
  | 0 => rfl
  | n + 1 => by
    simp only [exS, exS_neg (s := s) (g := g) n]
    split <;> omega
theorem exS_ind {s : Nat → Bool} {d : Nat} {x : Int} : ∀ n, exS s (fun v => if (d : Int) = (v : Int) then x else 0) n = if d < n then (if s d = true then 0 else x) else 0
  | 0 => by simp [exS]
  | n + 1 => by
    simp only [exS, exS_ind (s := s) (d := d) (x := x) n]
    by_cases e : d = n
    · subst e; simp
    · have : ¬ ((d : Int) = (n : Int)) := by omega
      have h0 : (if s n = true then (0 : Int) else 0) = 0 := by split <;> rfl
      simp only [this, if_false, h0]
      by_cases h : d < n
      · have h' : d < n + 1 := by omega
        rw [if_pos h, if_pos h']; omega
      · have h' : ¬ d < n + 1 := by omega
        rw [if_neg h, if_neg h']; omega
theorem exS_congr {s : Nat → Bool} {g h : Nat → Int} : ∀ n, (∀ v, v < n → s v = false → g v = h v) → exS s g n = exS s h n
  | 0, _ => rfl
  | n + 1, e => by
    simp only [exS, exS_congr (s := s) (g := g) (h := h) n fun v hv => e v (by omega)]
    cases hs : s n with
    | true => rfl
    | false => simp [e n (by omega) hs]
/-- Beyond a side lies, all in all, what goes across it. -/
theorem across_sum {l : List Ar.Arc} {s : Nat → Bool} {f : Nat → Int} {vn : Nat} (hin : inN vn l) : ∀ i, i ≤ l.length → exS s (exF l f i) vn = acrF l s f i
  | 0, _ => by
    have : ∀ n, exS s (fun _ => (0 : Int)) n = 0 := fun n => by
      induction n with
      | zero => rfl
      | succ n ih => simp only [exS, ih]; split <;> rfl
    exact this vn
  | i + 1, hi => by
    have ih := across_sum (s := s) (f := f) hin i (by omega)
    obtain ⟨u, v, e1, e2, hu, hv⟩ := hin _ (List.getElem_mem (show i < l.length by omega))
    have h1 : exS s (exF l f (i + 1)) vn = exS s (fun w => exF l f i w + ((if (v : Int) = (w : Int) then f i else 0) + -(if (u : Int) = (w : Int) then f i else 0))) vn := exS_congr vn fun w hw _ => by
      rw [exF_s (by omega), e1, e2]
      omega
    rw [h1, exS_add, exS_add, exS_neg, exS_ind, exS_ind, ih, acrF_s (by omega), if_pos hv, if_pos hu]
    simp only [outS, inS, e1, e2, Int.toNat_natCast]
    cases s u <;> cases s v <;> simp <;> omega
theorem acr_le {l : List Ar.Arc} {s : Nat → Bool} {f : Nat → Int} (h : ∀ i (hi : i < l.length), 0 ≤ f i ∧ f i ≤ l[i].cap) : ∀ i, i ≤ l.length → acrF l s f i ≤ capC l s i ∧ (acrF l s f i = capC l s i ↔ ∀ j (hj : j < l.length), j < i → (outS s l[j] = true → l[j].cap ≤ f j) ∧ (inS s l[j] = true → f j ≤ 0))
  | 0, _ => by simp [acrF, capC]
  | i + 1, hi => by
    obtain ⟨ih1, ih2⟩ := acr_le (s := s) h i (by omega)
    obtain ⟨h1, h2⟩ := h i (by omega)
    have hoi : outS s (l[i]'(by omega)) = true → inS s (l[i]'(by omega)) = false := fun h => by
      simp only [outS, inS, Bool.and_eq_true, Bool.not_eq_true'] at h ⊢
      simp [h.1, h.2]
    rw [acrF_s (by omega), capC_s (by omega)]
    refine ⟨by split; omega; split <;> omega, ?_⟩
    have key : ∀ (A B : Int), A ≤ B → (acrF l s f i + A = capC l s i + B ↔ acrF l s f i = capC l s i ∧ A = B) := fun A B hAB => by omega
    rw [key _ _ (by split; omega; split <;> omega), ih2]
    constructor
    · rintro ⟨a1, a2⟩ j hj hji
      by_cases e : j = i
      · subst e
        constructor
        · intro ho; rw [if_pos ho, if_pos ho] at a2; omega
        · intro hn
          have ho : ¬ outS s l[j] = true := fun ho => by rw [hoi ho] at hn; cases hn
          rw [if_neg ho, if_pos hn, if_neg ho] at a2; omega
      · exact a1 j hj (by omega)
    · intro a
      refine ⟨fun j hj hji => a j hj (by omega), ?_⟩
      obtain ⟨b1, b2⟩ := a i (by omega) (by omega)
      by_cases ho : outS s (l[i]'(by omega)) = true
      · rw [if_pos ho, if_pos ho]; have := b1 ho; omega
      · rw [if_neg ho, if_neg ho]
        by_cases hn : inS s (l[i]'(by omega)) = true
        · rw [if_pos hn]; have := b2 hn; omega
        · rw [if_neg hn]
/-- Across each cut goes just what a flow is worth. -/
theorem acr_value {n : Net} {nf vn T : Nat} {s : Nat → Bool} {f : Nat → Int} (hr : RightP n nf f) (hc : CutP n vn s) (hT : n.T = (T : Int)) (hTv : T < vn) (hin : inN vn n.arcs) : acrF n.arcs s f n.arcs.length = exF n.arcs f n.arcs.length T := by
  rw [← across_sum hin _ (Nat.le_refl _)]
  have h1 : exS s (exF n.arcs f n.arcs.length) vn = exS s (fun v => if (T : Int) = (v : Int) then exF n.arcs f n.arcs.length T else 0) vn := exS_congr vn fun v hv hs => by
    by_cases e : v = T
    · subst e; simp
    · rw [if_neg (by omega)]
      rcases hr.2 v (by rw [← hc.2.1]; omega) with h | h | h
      · exact h
      · have h5 := hc.2.2.1
        rw [← h] at h5
        simp only [Int.toNat_natCast] at h5
        rw [hs] at h5; cases h5
      · omega
  have hsT : s T = false := by have := hc.2.2.2; rw [hT] at this; simpa using this
  rw [h1, exS_ind, if_pos hTv, if_neg (by simp [hsT])]

theorem withinP_of {n : Net} {f : Nat → Int} (hc : chk n = 0) (hf : withinF n.arcs n.arcs.length f) : WithinP n n.arcs.length f := ⟨hc, rfl, fun i hi => ⟨(hf i hi hi).1, (hf i hi hi).2.1⟩⟩

set_option maxHeartbeats 8000000 in
theorem cutacross_law {H : Heap} {n : Net} {a z1 z2 : V} {zs : List Int} {s2 : List Bool} (hin : NetIn H n a) (hz1 : IL .i64 H z1 zs) (hzb : ∀ x, x ∈ zs → i64b x) (hz2 : BL H z2 s2) : ∃ v H', callL E (.f 22) [NV n a, z1, z2] H = some (v, H') ∧ v = .bool true := by
  refine call_E rfl nc22 rfl ?_
  unfold gc22
  obtain ⟨hc0, hlen, hN2, hN40, hcap⟩ := some_facts (n := n) (vs := 30) (m := 60) (by omega) (by omega) (by omega) (fun x hx => (hin.arc x hx).2.2)
  obtain ⟨x, H1, HA, p1, p2, gb, hA, hSl, hHp, hxs⟩ := some_pre hin (vs := 30) (ms := 60) (m := 60) rfl (by omega) (by omega) (by omega)
  have hcb := capB_some hcap
  generalize someN n 30 60 = m at *
  obtain ⟨vn, S, T, hvn, hS, hT, hSv, hTv, hST, hv2, hv4, hlm, hinN⟩ := chk_st hc0
  unfold NV nbox at p1
  unfold NV
  have hl : lenOf a = some n.arcs.length := Rw.len hin.al
  refine wa_sr ⟨_, by simp [len_cells hl]; rfl, ?_⟩
  refine wa_sr ⟨_, by simp -implicitDefEqProofs [p1, p2, hxs]; rfl, ?_⟩
  have lk1 := lt_of_get gb
  have q4 : ∀ X, rdn (HA ++ X) H.length 0 4 = some [V.int .i64 m.N, .int .i64 m.S, .int .i64 m.T, x] := fun X => rdn_all gb rfl
  have q4e := q4 []
  rw [List.append_nil] at q4e
  obtain ⟨f, F, G, hf, e0⟩ := within_ok (H := prot [] HA) (hA.prot fun k _ => by simp) ((hHp.il hz1).prot fun k _ => by simp) hzb hcb (by omega)
  rw [List.append_assoc] at e0
  have e1 := pcall_ok e0
  rw [List.length_append, length_prot] at e1
  have hW := withinP_of hc0 hf
  have e2 := side_ok (hA.app (F ++ rI m.arcs.length f :: G)) ((hHp.bl hz2).tb.app (F ++ rI m.arcs.length f :: G)) hvn hv4 hS hT hSv hTv
  have C : CutP m vn (sideF S T s2.length fun j => s2.getD j false) := side_cut hc0 hvn hS hT hST
  generalize (sideF S T s2.length fun j => s2.getD j false) = sd at *
  simp only [List.length_append, List.length_cons, List.append_assoc, List.cons_append] at e2
  unfold NV at e1 e2
  refine wa_seq (wa_dreg (s' := _) (by
    simp -implicitDefEqProofs [dinsL, dins, q4, q4e, e1, e2]
    rfl) (by simp [Chk.ok, V.blk?]; omega) ?_)
  have gF : (HA ++ (F ++ rI m.arcs.length f :: (G ++ [nbox m x, rB vn sd])))[HA.length + F.length]? = some (rI m.arcs.length f) := by simp
  have gS : (HA ++ (F ++ rI m.arcs.length f :: (G ++ [nbox m x, rB vn sd])))[HA.length + (F.length + (G.length + 1)) + 1]? = some (rB vn sd) := by
    have : HA.length + (F.length + (G.length + 1)) + 1 = HA.length + (F.length + (G.length + 1 + 1)) := by omega
    rw [this]; simp
  have hA := hA.app (F ++ rI m.arcs.length f :: (G ++ [nbox m x, rB vn sd]))
  have gb := get_pre (X := F ++ rI m.arcs.length f :: (G ++ [nbox m x, rB vn sd])) gb
  refine wa_rg [(3, .ptr H.length 0), (7, .sl (HA.length + F.length) 0 m.arcs.length m.arcs.length), (8, .sl (HA.length + (F.length + (G.length + 1)) + 1) 0 vn vn)] (by simp [Rg]) ?_
  change ∀ τ', Rg τ' _ → WP E _ ⟨τ', HA ++ (F ++ rI m.arcs.length f :: (G ++ [nbox m x, rB vn sd]))⟩ _
  clear e0 e1 e2 q4 q4e
  generalize HA ++ (F ++ rI m.arcs.length f :: (G ++ [nbox m x, rB vn sd])) = HB at *
  generalize HA.length + F.length = k7 at *
  generalize HA.length + (F.length + (G.length + 1)) + 1 = k8 at *
  generalize H.length = k3 at *
  rintro τ ⟨t3, t7, t8, -⟩
  dsimp only at t3 t7 t8
  have hF : TB HB (.sl k7 0 m.arcs.length m.arcs.length) m.arcs.length fun j => .int .i64 (f j) := TB.own (G := []) gF
  have hD : TB HB (.sl k8 0 vn vn) vn fun j => .bool (sd j) := TB.own (G := []) gS
  obtain ⟨_, _, _, _, hpos, _⟩ := chk_zero hc0
  have hsum := capS_le_of (M := 1125899906842624) m.arcs fun y hy => by have := hcap y hy; omega
  have q4 : ∀ X, rdn (HB ++ X) k3 0 4 = some [V.int .i64 m.N, .int .i64 m.S, .int .i64 m.T, x] := fun X => rdn_all gb rfl
  have q0 : ∀ X, rd (HB ++ X) k3 0 = some (.int .i64 m.N) := fun X => rd_pre gb
  have q4e := q4 []
  rw [List.append_nil] at q4e
  obtain ⟨G1, e1⟩ := acr_fn hA hF hD C hW
  obtain ⟨G2, e2⟩ := cap_ok (hA.app G1) (hD.app G1) C
  obtain ⟨F3, G3, e3⟩ := excess_ok (hA.app (G1 ++ G2)) (hF.app (G1 ++ G2)) hW hvn
  obtain ⟨G4, e4⟩ := (pc_cut (b := true) (hA.app (G1 ++ (G2 ++ (F3 ++ rI vn (exF m.arcs f m.arcs.length) :: G3)))) (by omega) (hD.app (G1 ++ (G2 ++ (F3 ++ rI vn (exF m.arcs f m.arcs.length) :: G3)))) (by simp [C])).run
  unfold NV at e1 e2 e3 e4
  simp only [List.append_assoc, List.cons_append] at e2 e3 e4
  refine wa_sr ⟨_, by simp -implicitDefEqProofs [t3, t7, t8, q4e, e1]; rfl, ?_⟩
  refine wa_sr ⟨_, by simp -implicitDefEqProofs [t3, t8, q4, e2]; rfl, ?_⟩
  refine wa_sr ⟨_, by simp -implicitDefEqProofs [t3, t7, q4, e3]; rfl, ?_⟩
  have hvnN : (vn : Int) = m.N := hvn.symm
  refine wa_sr ⟨_, by simp -implicitDefEqProofs [t3, t8, q4, q0, e4, hvnN]; rfl, ?_⟩
  refine wa_if (t := false) (by simp) (fun h => by cases h) (fun _ => ?_)
  refine wa_sr ⟨_, by simp; rfl, ?_⟩
  have gX : (HB ++ (G1 ++ (G2 ++ (F3 ++ rI vn (exF m.arcs f m.arcs.length) :: (G3 ++ G4)))))[HB.length + (G1.length + (G2.length + F3.length))]? = some (rI vn (exF m.arcs f m.arcs.length)) := by
    simp
  have hA := hA.app (G1 ++ (G2 ++ (F3 ++ rI vn (exF m.arcs f m.arcs.length) :: (G3 ++ G4))))
  have hF := hF.app (G1 ++ (G2 ++ (F3 ++ rI vn (exF m.arcs f m.arcs.length) :: (G3 ++ G4))))
  have hD := hD.app (G1 ++ (G2 ++ (F3 ++ rI vn (exF m.arcs f m.arcs.length) :: (G3 ++ G4))))
  have gb := get_pre (X := G1 ++ (G2 ++ (F3 ++ rI vn (exF m.arcs f m.arcs.length) :: (G3 ++ G4)))) gb
  have hkx : (HB ++ (G1 ++ G2) ++ F3).length = HB.length + (G1.length + (G2.length + F3.length)) := by simp
  refine wa_rg [(3, .ptr k3 0), (7, .sl k7 0 m.arcs.length m.arcs.length), (8, .sl k8 0 vn vn), (9, .int .i64 (acrF m.arcs sd f m.arcs.length)), (11, .int .i64 (capC m.arcs sd m.arcs.length)), (13, .sl (HB.length + (G1.length + (G2.length + F3.length))) 0 vn vn), (15, .int .i64 0)] (by simp [Rg, t3, t7, t8]; try omega) ?_
  change ∀ τ', Rg τ' _ → WP E _ ⟨τ', HB ++ (G1 ++ (G2 ++ (F3 ++ rI vn (exF m.arcs f m.arcs.length) :: (G3 ++ G4))))⟩ _
  clear e1 e2 e3 e4 q4 q4e q0 t3 t7 t8 τ hkx
  generalize HB ++ (G1 ++ (G2 ++ (F3 ++ rI vn (exF m.arcs f m.arcs.length) :: (G3 ++ G4)))) = HC at *
  generalize HB.length + (G1.length + (G2.length + F3.length)) = k13 at *
  rintro τ ⟨t3, t7, t8, t9, t11, t13, t15, -⟩
  dsimp only at t3 t7 t8 t9 t11 t13 t15
  refine wa_sr ⟨_, by simp [t8]; rfl, ?_⟩
  have hws := within_sum hW m.arcs.length (Nat.le_refl _)
  have hsP := sumP_le (l := m.arcs) (f := f) m.arcs.length (Nat.le_refl _) hW.2.2
  rw [List.take_length] at hsP
  have hvn30 : vn ≤ 30 := by omega
  have hexb := fun v => exF_b (l := m.arcs) (f := f) v m.arcs.length (Nat.le_refl _) fun j hj => (hW.2.2 j hj).1
  have hsmall : sumP f m.arcs.length ≤ 67553994410557440 := by omega
  have hpart : ∀ i, i ≤ vn → -(67553994410557440 * (i : Int)) ≤ exS sd (exF m.arcs f m.arcs.length) i ∧ exS sd (exF m.arcs f m.arcs.length) i ≤ 67553994410557440 * (i : Int) := fun i => by
    induction i with
    | zero => intro _; simp [exS]
    | succ i ih =>
      intro hi
      have h1 := ih (by omega)
      have h2 := hexb i
      simp only [exS]
      split <;> omega
  refine wa_cut (fun s' => s'.H = HC ∧ Rg s'.τ [(3, .ptr k3 0), (7, .sl k7 0 m.arcs.length m.arcs.length), (8, .sl k8 0 vn vn), (9, .int .i64 (acrF m.arcs sd f m.arcs.length)), (11, .int .i64 (capC m.arcs sd m.arcs.length)), (15, .int .i64 (exS sd (exF m.arcs f m.arcs.length) vn))]) ?_ ?_
  · refine wa_for (n := vn) (fun i (_ : Unit) => [(3, .ptr k3 0), (7, .sl k7 0 m.arcs.length m.arcs.length), (8, .sl k8 0 vn vn), (9, .int .i64 (acrF m.arcs sd f m.arcs.length)), (11, .int .i64 (capC m.arcs sd m.arcs.length)), (13, .sl k13 0 vn vn), (15, .int .i64 (exS sd (exF m.arcs f m.arcs.length) i)), (70, .sl k8 0 vn vn)]) (fun i _ H' => H' = HC) ()
      (by decide) (fun i hi => w64 (by omega) (by omega)) (by simp) (by simp) (by simp [Rg, t3, t7, t8, t9, t11, t13, t15, exS]) rfl (by simp) ?_ ?_
    · clear t3 t7 t8 t9 t11 t13 t15 τ
      rintro i _ τ HX hi t72 t71 ⟨t3, t7, t8, t9, t11, t13, t15, t70, -⟩ rfl
      dsimp only [ev] at *
      have rD : rd HX k8 i = some (.bool (sd i)) := by
        obtain ⟨k', o', c', e', r'⟩ := hD.at0 hi
        cases e'
        rw [Nat.zero_add] at r'; exact r'
      have rX : rd HX k13 i = some (.int .i64 (exF m.arcs f m.arcs.length i)) := by rw [rd_get gX]; simp [hi]
      have hp1 := hpart (i + 1) hi
      have hes : exS sd (exF m.arcs f m.arcs.length) (i + 1) = exS sd (exF m.arcs f m.arcs.length) i + if sd i = true then 0 else exF m.arcs f m.arcs.length i := rfl
      refine wa_sr ⟨_, by simp -implicitDefEqProofs [t70, t72, hi, rD]; rfl, ?_⟩
      refine wa_sr ⟨_, by simp; rfl, ?_⟩
      cases hsi : sd i with
      | true =>
        rw [hsi, if_pos rfl, Int.add_zero] at hes
        refine wa_cond (t := false) (by simp) (fun h => by cases h) (fun _ => wa_skip ?_)
        exact ⟨by simp [t72], by simp [t71], (), by simp [Rg, t3, t7, t8, t9, t11, t13, t15, t70, hes], rfl⟩
      | false =>
        rw [hsi, if_neg (by simp)] at hes
        have w : IntKind.i64.wrap (exS sd (exF m.arcs f m.arcs.length) i + exF m.arcs f m.arcs.length i) = exS sd (exF m.arcs f m.arcs.length) (i + 1) := by rw [hes] at hp1 ⊢; exact w64 (by omega) (by omega)
        refine wa_cond (t := true) (by simp) (fun _ => ?_) (fun h => by cases h)
        refine wa_regs ⟨_, by simp -implicitDefEqProofs [t13, t15, hi, rX, w]; rfl, ?_⟩
        exact ⟨by simp [t72], by simp [t71], (), by simp [Rg, t3, t7, t8, t9, t11, t13, t70], rfl⟩
    · rintro _ τ H' ⟨t3, t7, t8, t9, t11, t13, t15, -⟩ h'
      exact ⟨h', by simp [Rg, t3, t7, t8, t9, t11, t15]⟩
  clear t3 t7 t8 t9 t11 t13 t15 τ
  rintro ⟨τ, H'⟩ ⟨h', t3, t7, t8, t9, t11, t15, -⟩
  dsimp only at h' t3 t7 t8 t9 t11 t15
  subst h'
  rw [across_sum hinN _ (Nat.le_refl _)] at t15
  obtain ⟨hle, heq⟩ := acr_le (s := sd) hW.2.2 m.arcs.length (Nat.le_refl _)
  have q4 : ∀ X, rdn (H' ++ X) k3 0 4 = some [V.int .i64 m.N, .int .i64 m.S, .int .i64 m.T, x] := fun X => rdn_all gb rfl
  have q4e := q4 []
  rw [List.append_nil] at q4e
  obtain ⟨G5, e5⟩ := tight_ok (b := (acrF m.arcs sd f m.arcs.length == capC m.arcs sd m.arcs.length)) hA (by omega) hF hD (by
    rw [beq_iff_eq, heq]
    constructor
    · intro h; exact ⟨C, hW, fun i hi => h i hi hi⟩
    · rintro ⟨_, _, h⟩ i hi _; exact h i hi)
  unfold NV at e5
  have hval : ∀ (hr : RightP m m.arcs.length f), exF m.arcs f m.arcs.length T = acrF m.arcs sd f m.arcs.length := fun hr => (acr_value hr C hT hTv hinN).symm
  generalize acrF m.arcs sd f m.arcs.length = X at *
  generalize capC m.arcs sd m.arcs.length = Y at *
  have n1 : ¬ (Y < X) := by omega
  have hbe : ((X == Y) == (X == Y)) = true := by simp
  refine wa_sr ⟨_, by simp -implicitDefEqProofs [t3, t7, t8, t9, t11, t15, q4e, n1, e5]; rfl, ?_⟩
  refine wa_if (t := false) (by simp) (fun h => by cases h) (fun _ => ?_)
  by_cases hr : RightP m m.arcs.length f
  · obtain ⟨G6, e6⟩ := value_ok (hA.app G5) (hF.app G5) hr hT
    rw [hval hr] at e6
    unfold NV at e6
    obtain ⟨G7, e7⟩ := awake04 (H' ++ G5 ++ G6)
    rw [List.append_assoc] at e6 e7
    refine wa_sr ⟨_, by simp -implicitDefEqProofs [t3, t7, q4, e6]; rfl, ?_⟩
    refine wa_sr ⟨_, by simp -implicitDefEqProofs [t9]; rfl, ?_⟩
    refine wa_if (t := false) (by simp) (fun h => by cases h) (fun _ => ?_)
    refine wa_sr ⟨_, by simp -implicitDefEqProofs [e7]; rfl, ?_⟩
    exact wa_ret ⟨by simp, _, by simp; rfl, rfl⟩
  · obtain ⟨G6, e6⟩ := value_bad (hA.app G5) (by omega) (hF.app G5) hr
    unfold NV at e6
    obtain ⟨G7, e7⟩ := awake04 (H' ++ G5 ++ G6)
    rw [List.append_assoc] at e6 e7
    refine wa_sr ⟨_, by simp -implicitDefEqProofs [t3, t7, q4, e6]; rfl, ?_⟩
    refine wa_sr ⟨_, by simp -implicitDefEqProofs [t9]; rfl, ?_⟩
    refine wa_if (t := false) (by simp) (fun h => by cases h) (fun _ => ?_)
    refine wa_sr ⟨_, by simp -implicitDefEqProofs [e7]; rfl, ?_⟩
    exact wa_ret ⟨by simp, _, by simp; rfl, rfl⟩
end Go.Proofs.Ytpojdgeginigjaa
