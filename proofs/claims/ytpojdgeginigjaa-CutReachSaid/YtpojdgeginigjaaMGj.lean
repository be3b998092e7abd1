/- CutReach: the plain law, the walk. -/
import Derived.Test.YtpojdgeginigjaaMGi
set_option linter.unusedSimpArgs false
set_option linter.unusedVariables false
namespace Go.Proofs.Ytpojdgeginigjaa
open Go Go.Ar
set_option maxRecDepth 100000

theorem Rch.trans {c : Csr} {may : Nat → Bool} {u v w : Nat} (h1 : Rch c may u v) (h2 : Rch c may v w) : Rch c may u w := by
  induction h2 with
  | refl => exact h1
  | step _ a b d e ih => exact .step ih a b d e
/-- T is reached from S just if S reaches T. -/
theorem rch_rev {n : Net} {c1 c2 : Csr} {f : Nat → Int} (h1 : IsCsr n c1) (h2 : IsCsr n c2) (hf : ∀ i (hi : i < n.arcs.length), 0 ≤ f i ∧ f i ≤ n.arcs[i].cap) {u v : Nat} :
    Rch c1 (fun q => decide (0 < resF c1 f q)) u v ↔ Rch c2 (fun q => decide (0 < resF c2 f (c2.rev q).toNat)) v u := by
  constructor
  · intro h
    exact rch_ind h1 hf (P := fun v => Rch c2 (fun q => decide (0 < resF c2 f (c2.rev q).toNat)) v u) .refl (fun i hi s d e1 e2 hlt hs => (rchT_fwd h2 hi e1 e2 hlt .refl).trans hs) (fun i hi s d e1 e2 hlt hs => (rchT_bwd h2 hi e1 e2 hlt .refl).trans hs) v h
  · intro h
    exact rchT_ind h2 (P := fun u => Rch c1 (fun q => decide (0 < resF c1 f q)) u v) .refl (fun i hi s d e1 e2 hlt hs => (rch_fwd h1 hi e1 e2 hlt .refl).trans hs) (fun i hi s d e1 e2 hlt hs => (rch_bwd h1 hi e1 e2 hlt .refl).trans hs) u h
def anyB (g : Nat → Bool) : Nat → Bool
  | 0 => false
  | v + 1 => anyB g v || g v
theorem anyB_iff (g : Nat → Bool) : ∀ n, anyB g n = true ↔ ∃ v, v < n ∧ g v = true
  | 0 => by simp [anyB]
  | n + 1 => by
    simp only [anyB, Bool.or_eq_true, anyB_iff g n]
    constructor
    · rintro (⟨v, h1, h2⟩ | h)
      · exact ⟨v, by omega, h2⟩
      · exact ⟨n, by omega, h⟩
    · rintro ⟨v, h1, h2⟩
      by_cases e : v = n
      · subst e; exact .inr h2
      · exact .inl ⟨v, by omega, h2⟩

set_option maxHeartbeats 16000000 in
theorem cutreach_law {H : Heap} {n : Net} {a z1 : V} {zs : List Int} (hin : NetIn H n a) (hz1 : IL .i64 H z1 zs) (hzb : ∀ x, x ∈ zs → i64b x) : ∃ v H', callL E (.f 19) [NV n a, z1] H = some (v, H') ∧ v = .bool true := by
  refine call_E rfl nc19 rfl ?_
  unfold gc19
  obtain ⟨hc0, hlen, hN2, hN40, hcap⟩ := some_facts (n := n) (vs := 30) (m := 60) (by omega) (by omega) (by omega) (fun x hx => (hin.arc x hx).2.2)
  obtain ⟨x, H1, HA, p1, p2, gb, hA, hSl, hHp, hxs⟩ := some_pre hin (vs := 30) (ms := 60) (m := 60) rfl (by omega) (by omega) (by omega)
  have hcb := capB_some hcap
  generalize someN n 30 60 = m at *
  obtain ⟨vn, S, T, hvn, hS, hT, hSv, hTv, hST, hv2, hv4, hlm, hinN⟩ := chk_st hc0
  unfold NV nbox at p1
  unfold NV
  have hl : lenOf a = some n.arcs.length := Rw.len hin.al
  refine wa_sr ⟨_, by simp [len_cells hl]; rfl, ?_⟩
  refine wa_sr ⟨_, by simp -implicitDefEqProofs [p1, p2, hxs]; rfl, ?_⟩
  obtain ⟨f, F, G, hf, e0⟩ := within_ok hA (hHp.il hz1) hzb hcb (by omega)
  have hW := withinP_of hc0 hf
  have b4 := rdn_all (X := []) (n := 4) gb rfl
  rw [List.append_nil] at b4
  unfold NV at e0
  rw [List.append_assoc] at e0
  refine wa_sr ⟨_, by simp -implicitDefEqProofs [-List.length_append, b4, e0]; rfl, ?_⟩
  have gF : (HA ++ (F ++ rI m.arcs.length f :: G))[(HA ++ F).length]? = some (rI m.arcs.length f) := by rw [← List.append_assoc]; simp
  have hA := hA.app (F ++ rI m.arcs.length f :: G)
  have gb := get_pre (X := F ++ rI m.arcs.length f :: G) gb
  refine wa_rg [(2, .ptr H.length 0), (5, .sl (HA ++ F).length 0 m.arcs.length m.arcs.length)] (by simp [Rg]) ?_
  clear e0 b4
  generalize HA ++ (F ++ rI m.arcs.length f :: G) = HB at *
  generalize (HA ++ F).length = k5 at *
  generalize H.length = k2 at *
  rintro τ ⟨t2, t5, -⟩
  dsimp only at t2 t5
  have hF : TB HB (.sl k5 0 m.arcs.length m.arcs.length) m.arcs.length fun j => .int .i64 (f j) := TB.own (G := []) gF
  -- From
  obtain ⟨c1, oA, F1, G1, hI1, e1, hR1⟩ := from_ok hA hF hW hS hvn
  have b4 := rdn_all (X := []) (n := 4) gb rfl
  rw [List.append_nil] at b4
  unfold NV at e1
  rw [List.append_assoc] at e1
  refine wa_sr ⟨_, by simp -implicitDefEqProofs [-List.length_append, t2, t5, b4, e1]; rfl, ?_⟩
  have gA : (HB ++ (F1 ++ rB vn oA :: G1))[(HB ++ F1).length]? = some (rB vn oA) := by rw [← List.append_assoc]; simp
  have hA := hA.app (F1 ++ rB vn oA :: G1)
  have hF := hF.app (F1 ++ rB vn oA :: G1)
  have gb := get_pre (X := F1 ++ rB vn oA :: G1) gb
  refine wa_rg [(2, .ptr k2 0), (5, .sl k5 0 m.arcs.length m.arcs.length), (6, .sl (HB ++ F1).length 0 vn vn), (7, .int .i64 0)] (by simp [Rg, t2, t5]) ?_
  clear e1 b4 t2 t5 τ gF
  generalize HB ++ (F1 ++ rB vn oA :: G1) = HC at *
  generalize (HB ++ F1).length = k6 at *
  rintro τ ⟨t2, t5, t6, t7, -⟩
  dsimp only at t2 t5 t6 t7
  -- To
  obtain ⟨c2, oB, F2, G2, hI2, e1, hR2⟩ := to_ok hA hF hW hT hvn
  have b4 := rdn_all (X := []) (n := 4) gb rfl
  rw [List.append_nil] at b4
  unfold NV at e1
  rw [List.append_assoc] at e1
  refine wa_sr ⟨_, by simp -implicitDefEqProofs [-List.length_append, t2, t5, b4, e1]; rfl, ?_⟩
  have gB : (HC ++ (F2 ++ rB vn oB :: G2))[(HC ++ F2).length]? = some (rB vn oB) := by rw [← List.append_assoc]; simp
  have hA := hA.app (F2 ++ rB vn oB :: G2)
  have hF := hF.app (F2 ++ rB vn oB :: G2)
  have gb := get_pre (X := F2 ++ rB vn oB :: G2) gb
  have gA := get_pre (X := F2 ++ rB vn oB :: G2) gA
  refine wa_rg [(2, .ptr k2 0), (5, .sl k5 0 m.arcs.length m.arcs.length), (6, .sl k6 0 vn vn), (7, .int .i64 0), (8, .sl (HC ++ F2).length 0 vn vn), (9, .int .i64 0)] (by simp [Rg, t2, t5, t6, t7]) ?_
  clear e1 b4 t2 t5 t6 t7 τ
  generalize HC ++ (F2 ++ rB vn oB :: G2) = HD at *
  generalize (HC ++ F2).length = k8 at *
  rintro τ ⟨t2, t5, t6, t7, t8, t9, -⟩
  dsimp only at t2 t5 t6 t7 t8 t9
  -- what is known of both
  have hfw := hW.2.2
  have aS : oA S = true := (hR1 S hSv).2 .refl
  have bT : oB T = false := by
    rw [← Bool.not_eq_true, hR2 T hTv]
    exact fun h => h .refl
  have aT : oA T = !oB S := by
    rw [Bool.eq_iff_iff, hR1 T hTv, rch_rev hI1 hI2 hfw]
    have := hR2 S hSv
    cases hb : oB S with
    | true => rw [hb] at this; simp; exact this.1 rfl
    | false =>
      rw [hb] at this
      simp at this ⊢
      exact this
  have hTA : TB HD (.sl k6 0 vn vn) vn fun j => .bool (oA j) := TB.own (G := []) gA
  have hTB : TB HD (.sl k8 0 vn vn) vn fun j => .bool (oB j) := TB.own (G := []) gB
  have hboth : anyB (fun v => oA v && !oB v) vn = oA T := by
    rw [Bool.eq_iff_iff, anyB_iff]
    constructor
    · rintro ⟨v, hv, h⟩
      simp only [Bool.and_eq_true, Bool.not_eq_true'] at h
      rw [hR1 T hTv]
      have h3 : Rch c2 (fun q => decide (0 < resF c2 f (c2.rev q).toNat)) T v := by
        have := hR2 v hv
        rw [h.2] at this
        simpa using this
      exact ((hR1 v hv).1 h.1).trans ((rch_rev hI1 hI2 hfw).2 h3)
    · intro h
      exact ⟨T, hTv, by rw [h, bT]; rfl⟩
  have cA : (!oA T) = true ↔ CutP m vn oA := by
    unfold CutP
    rw [hS, hT]
    simp [hc0, hvn, aS]
  have cB : (oB S) = true ↔ CutP m vn oB := by
    unfold CutP
    rw [hS, hT]
    simp [hc0, hvn, bT]
  have q4 : ∀ X, rdn (HD ++ X) k2 0 4 = some [V.int .i64 m.N, .int .i64 m.S, .int .i64 m.T, x] := fun X => rdn_all gb rfl
  have q4e := q4 []
  rw [List.append_nil] at q4e
  have q : ∀ X o, rd (HD ++ X) k2 o = [V.int .i64 m.N, .int .i64 m.S, .int .i64 m.T, x][o]? := fun X o => rd_pre gb
  have qe := q [] 
  simp only [List.append_nil] at qe
  have rA : ∀ X (j : Nat), j < vn → rd (HD ++ X) k6 j = some (.bool (oA j)) := fun X j hj => by rw [rd_pre gA]; simp [hj]
  have rB' : ∀ X (j : Nat), j < vn → rd (HD ++ X) k8 j = some (.bool (oB j)) := fun X j hj => by rw [rd_pre gB]; simp [hj]
  have rAe := fun j hj => rA [] j hj
  have rBe := fun j hj => rB' [] j hj
  simp only [List.append_nil] at rAe rBe
  have lk2 := lt_of_get gb
  have lk6 := lt_of_get gA
  have gD1 := (pc_cut (H := prot [] HD) (hA.prot fun k _ => by simp) (by omega) (hTA.prot fun k _ => by simp) cA)
  have gD2 := (pc_cut (H := HD) hA (by omega) hTB cB)
  rw [show oB S = !oA T by rw [aT]; simp] at gD2
  obtain ⟨p1, g1⟩ := gD1.pc0
  obtain ⟨p2, g2⟩ := gD2
  unfold NV at g1 g2
  have g1e := g1 []
  rw [List.append_nil, List.nil_append] at g1e
  have eA : ∀ X, rd (HD ++ X) k6 T = some (.bool (oA T)) := fun X => rA X T hTv
  have eS : rd HD k6 S = some (.bool true) := by rw [rAe S hSv, aS]
  have eT : rd HD k8 T = some (.bool false) := by rw [rBe T hTv, bT]
  have q4n := q4
  have q4en := q4e
  have qn := q
  have qen := qe
  rw [hS, hT, hvn] at g1 g2 g1e
  simp only [hS, hT, hvn] at q4n q4en qn qen
  generalize hbt : oA T = bt at *
  refine wa_seq (wa_dreg (s' := _) (by
    simp -implicitDefEqProofs [dinsL, dins, t2, t5, t6, t7, t8, t9, q4n, q4en, qn, qen, g1, g1e, g2, eS, eT, eA, hSv, hTv]
    rfl) (by simp [Chk.ok, V.blk?, t2, lk2, lk6]; try omega) ?_)
  refine wa_rg [(2, .ptr k2 0), (5, .sl k5 0 m.arcs.length m.arcs.length), (6, .sl k6 0 vn vn), (8, .sl k8 0 vn vn), (86, .bool false)] (by simp [Rg, t2, t5, t6, t8]) ?_
  change ∀ τ', Rg τ' _ → WP E _ ⟨τ', HD ++ _⟩ _
  clear g1 g2 g1e q4n q4en qn qen q qe q4 q4e gD1 t7 t9 rAe rBe eA eS eT t2 t5 t6 t8 τ
  have hA := hA.app (p1 [] ++ (p2 (p1 []) ++ p1 (p1 [] ++ p2 (p1 []))))
  have hF := hF.app (p1 [] ++ (p2 (p1 []) ++ p1 (p1 [] ++ p2 (p1 []))))
  have gb := get_pre (X := (p1 [] ++ (p2 (p1 []) ++ p1 (p1 [] ++ p2 (p1 []))))) gb
  have gA := get_pre (X := (p1 [] ++ (p2 (p1 []) ++ p1 (p1 [] ++ p2 (p1 []))))) gA
  have gB := get_pre (X := (p1 [] ++ (p2 (p1 []) ++ p1 (p1 [] ++ p2 (p1 []))))) gB
  generalize HD ++ (p1 [] ++ (p2 (p1 []) ++ p1 (p1 [] ++ p2 (p1 [])))) = HE at *
  rintro τ ⟨t2, t5, t6, t8, t86, -⟩
  dsimp only at t2 t5 t6 t8 t86
  subst hbt
  have rA : ∀ X (j : Nat), j < vn → rd (HE ++ X) k6 j = some (.bool (oA j)) := fun X j hj => by rw [rd_pre gA]; simp [hj]
  have rB' : ∀ X (j : Nat), j < vn → rd (HE ++ X) k8 j = some (.bool (oB j)) := fun X j hj => by rw [rd_pre gB]; simp [hj]
  have rAe := fun j hj => rA [] j hj
  have rBe := fun j hj => rB' [] j hj
  simp only [List.append_nil] at rAe rBe
  have q : ∀ X o, rd (HE ++ X) k2 o = [V.int .i64 m.N, .int .i64 m.S, .int .i64 m.T, x][o]? := fun X o => rd_pre gb
  have qe := q []
  simp only [List.append_nil] at qe
  have hl2 : lenOf x = some m.arcs.length := Rw.len hA
  refine wa_if (t := false) (by simp [t86]) (fun h => by cases h) (fun _ => ?_)
  refine wa_sr ⟨_, by simp; rfl, ?_⟩
  refine wa_sr ⟨_, by simp -implicitDefEqProofs [t6]; rfl, ?_⟩
  refine wa_cut (fun s' => s'.H = HE ∧ Rg s'.τ [(2, .ptr k2 0), (5, .sl k5 0 m.arcs.length m.arcs.length), (6, .sl k6 0 vn vn), (8, .sl k8 0 vn vn), (10, .bool (oA T))]) ?_ ?_
  · refine wa_for (n := vn) (fun i (_ : Unit) => [(2, .ptr k2 0), (5, .sl k5 0 m.arcs.length m.arcs.length), (6, .sl k6 0 vn vn), (8, .sl k8 0 vn vn), (10, .bool (anyB (fun v => oA v && !oB v) i))]) (fun i _ H' => H' = HE) ()
      (by decide) (fun i hi => w64 (by omega) (by omega)) (by simp) (by simp) (by simp [Rg, t2, t5, t6, t8, anyB]) rfl (by simp) ?_ ?_
    · clear t2 t5 t6 t8 t86 τ
      rintro i _ τ HX hi t89 t88 ⟨t2, t5, t6, t8, t10, -⟩ rfl
      dsimp only [ev] at *
      have r1 := rAe i hi
      have r2 := rBe i hi
      have hst : anyB (fun v => oA v && !oB v) (i + 1) = (anyB (fun v => oA v && !oB v) i || (oA i && !oB i)) := rfl
      rw [hst]
      generalize anyB (fun v => oA v && !oB v) i = b0 at *
      generalize oA i = b1 at *
      generalize oB i = b2 at *
      refine wa_sr ⟨_, by simp -implicitDefEqProofs [t89]; rfl, ?_⟩
      cases b0 <;> cases b1 <;> cases b2 <;> (refine wa_regs ⟨_, by simp -implicitDefEqProofs [t10, t6, t8, hi, r1, r2]; rfl, ?_⟩; exact ⟨by simp [t89], by simp [t88], (), by simp [Rg, t2, t5, t6, t8], rfl⟩)
    · rintro _ τ H' ⟨t2, t5, t6, t8, t10, -⟩ h'
      rw [hboth] at t10
      exact ⟨h', by simp [Rg, t2, t5, t6, t8, t10]⟩
  clear t2 t5 t6 t8 t86 τ
  rintro ⟨τ, H'⟩ ⟨h', t2, t5, t6, t8, t10, -⟩
  dsimp only at h' t2 t5 t6 t8 t10
  subst h'
  refine wa_sr ⟨_, by simp -implicitDefEqProofs [t2, qe, hl2]; rfl, ?_⟩
  refine wa_cut (fun s' => (∃ L, s'.H = H' ++ L) ∧ Rg s'.τ [(2, .ptr k2 0), (6, .sl k6 0 vn vn), (10, .bool (oA T))]) ?_ ?_
  · refine wa_for (n := m.arcs.length) (fun i (_ : Heap) => [(2, .ptr k2 0), (5, .sl k5 0 m.arcs.length m.arcs.length), (6, .sl k6 0 vn vn), (8, .sl k8 0 vn vn), (10, .bool (oA T)), (108, x)]) (fun i L H9 => H9 = H' ++ L) []
      (by decide) (fun i hi => w64 (by omega) (by omega)) (by simp) (by simp) (by simp [Rg, t2, t5, t6, t8, t10]) (by simp) (by simp) ?_ ?_
    · clear t2 t5 t6 t8 t10 τ
      rintro i L τ HX hi t110 t109 ⟨t2, t5, t6, t8, t10, t108, -⟩ rfl
      dsimp only [ev] at *
      obtain ⟨ka, o, cc, hae, _, hr, _⟩ := hA.at hi
      obtain ⟨ky, oy, cy, eF, rF⟩ := hF.at hi
      cases eF
      obtain ⟨s, d, e1, e2, hs, hd⟩ := hinN _ (List.getElem_mem hi)
      have hcl1 : f i < m.arcs[i].cap → oA s = true → oA d = true := fun h1 h2 => by
        exact (hR1 d (by omega)).2 (rch_fwd hI1 hi e1 e2 h1 ((hR1 s (by omega)).1 h2))
      have hcl2 : 0 < f i → oA d = true → oA s = true := fun h1 h2 => by
        exact (hR1 s (by omega)).2 (rch_bwd hI1 hi e1 e2 h1 ((hR1 d (by omega)).1 h2))
      have hcl3 : f i < m.arcs[i].cap → oB d = false → oB s = false := fun h1 h2 => by
        rw [← Bool.not_eq_true, hR2 s (by omega)]
        refine fun h => h (rchT_fwd hI2 hi e1 e2 h1 (Classical.byContradiction fun h' => ?_))
        rw [(hR2 d (by omega)).2 h'] at h2; cases h2
      have hcl4 : 0 < f i → oB s = false → oB d = false := fun h1 h2 => by
        rw [← Bool.not_eq_true, hR2 d (by omega)]
        refine fun h => h (rchT_bwd hI2 hi e1 e2 h1 (Classical.byContradiction fun h' => ?_))
        rw [(hR2 s (by omega)).2 h'] at h2; cases h2
      unfold Ar.Arc.cells at hr
      rw [e1, e2] at hr
      have as' := fun X => rA X s (by omega)
      have ad := fun X => rA X d (by omega)
      have bs := fun X => rB' X s (by omega)
      have bd := fun X => rB' X d (by omega)
      generalize m.arcs[i] = ar at *
      generalize oA s = sA at *
      generalize oA d = dA at *
      generalize oB s = sB at *
      generalize oB d = dB at *
      generalize f i = fi at *
      have hs' : s < vn := by omega
      have hd' : d < vn := by omega
      refine wa_sr ⟨_, by simp -implicitDefEqProofs [t108, t110, hae, hi, hr]; rfl, ?_⟩
      have k0 : rd (H' ++ (L ++ [.cells [.int .i64 s, .int .i64 d, .int .i64 ar.cap] .ex])) (H'.length + L.length) 0 = some (.int .i64 s) := by rw [← List.append_assoc, ← List.length_append]; simp [-List.append_assoc, -List.length_append]
      have k1 : rd (H' ++ (L ++ [.cells [.int .i64 s, .int .i64 d, .int .i64 ar.cap] .ex])) (H'.length + L.length) 1 = some (.int .i64 d) := by rw [← List.append_assoc, ← List.length_append]; simp [-List.append_assoc, -List.length_append]
      have k2' : rd (H' ++ (L ++ [.cells [.int .i64 s, .int .i64 d, .int .i64 ar.cap] .ex])) (H'.length + L.length) 2 = some (.int .i64 ar.cap) := by rw [← List.append_assoc, ← List.length_append]; simp [-List.append_assoc, -List.length_append]
      have as1 := as' (L ++ [.cells [.int .i64 s, .int .i64 d, .int .i64 ar.cap] .ex])
      have ad1 := ad (L ++ [.cells [.int .i64 s, .int .i64 d, .int .i64 ar.cap] .ex])
      have bs1 := bs (L ++ [.cells [.int .i64 s, .int .i64 d, .int .i64 ar.cap] .ex])
      have bd1 := bd (L ++ [.cells [.int .i64 s, .int .i64 d, .int .i64 ar.cap] .ex])
      simp only [Nat.zero_add] at rF
      have rf1 := rF (L ++ [.cells [.int .i64 s, .int .i64 d, .int .i64 ar.cap] .ex])
      refine wa_rg [(2, .ptr k2 0), (5, .sl k5 0 m.arcs.length m.arcs.length), (6, .sl k6 0 vn vn), (8, .sl k8 0 vn vn), (10, .bool (oA T)), (12, .int .i64 i), (13, .ptr (H'.length + L.length) 0), (108, x), (109, .int .i64 m.arcs.length), (110, .int .i64 i)] (by simp [Rg, t2, t5, t6, t8, t10, t108, t109, t110, hae]) ?_
      change ∀ τ', Rg τ' _ → WP E _ ⟨τ', H' ++ (L ++ [.cells [.int .i64 s, .int .i64 d, .int .i64 ar.cap] .ex])⟩ _
      clear t2 t5 t6 t8 t10 t108 t109 t110 τ as' ad bs bd
      generalize H'.length + L.length = k13 at *
      generalize hHX : H' ++ (L ++ [.cells [.int .i64 s, .int .i64 d, .int .i64 ar.cap] .ex]) = HX at *
      rintro τ ⟨t2, t5, t6, t8, t10, t12, t13, t108, t109, t110, -⟩
      dsimp only at t2 t5 t6 t8 t10 t12 t13 t108 t109 t110
      refine wa_dw ?_
      refine DW.cutP 38 (fun s' => s'.H = HX ∧ Rg s'.τ [(2, .ptr k2 0), (5, .sl k5 0 m.arcs.length m.arcs.length), (6, .sl k6 0 vn vn), (8, .sl k8 0 vn vn), (10, .bool (oA T)), (12, .int .i64 i), (13, .ptr k13 0), (108, x), (109, .int .i64 m.arcs.length), (110, .int .i64 i), (152, .bool false)]) ?_ ?_
      · by_cases hf1 : fi < ar.cap
        · have j1 := hcl1 hf1
          have j3 := hcl3 hf1
          cases sA <;> cases dB
          · have j4 := j3 rfl; subst j4; (refine ⟨_, by simp -implicitDefEqProofs [dinsL, dins, t5, t6, t8, t12, t13, hi, rf1, k0, k1, k2', as1, ad1, bs1, bd1, hf1, hs', hd']; rfl, ?_⟩; exact ⟨rfl, by simp [Rg, t2, t5, t6, t8, t10, t12, t13, t108, t109, t110]⟩)
          · (refine ⟨_, by simp -implicitDefEqProofs [dinsL, dins, t5, t6, t8, t12, t13, hi, rf1, k0, k1, k2', as1, ad1, bs1, bd1, hf1, hs', hd']; rfl, ?_⟩; exact ⟨rfl, by simp [Rg, t2, t5, t6, t8, t10, t12, t13, t108, t109, t110]⟩)
          · have j4 := j3 rfl; have j2 := j1 rfl; subst j4; subst j2; (refine ⟨_, by simp -implicitDefEqProofs [dinsL, dins, t5, t6, t8, t12, t13, hi, rf1, k0, k1, k2', as1, ad1, bs1, bd1, hf1, hs', hd']; rfl, ?_⟩; exact ⟨rfl, by simp [Rg, t2, t5, t6, t8, t10, t12, t13, t108, t109, t110]⟩)
          · have j2 := j1 rfl; subst j2; (refine ⟨_, by simp -implicitDefEqProofs [dinsL, dins, t5, t6, t8, t12, t13, hi, rf1, k0, k1, k2', as1, ad1, bs1, bd1, hf1, hs', hd']; rfl, ?_⟩; exact ⟨rfl, by simp [Rg, t2, t5, t6, t8, t10, t12, t13, t108, t109, t110]⟩)
        · refine ⟨_, by simp -implicitDefEqProofs [dinsL, dins, t5, t6, t8, t12, t13, hi, rf1, k0, k1, k2', as1, ad1, bs1, bd1, hf1, hs', hd']; rfl, ?_⟩
          exact ⟨rfl, by simp [Rg, t2, t5, t6, t8, t10, t12, t13, t108, t109, t110]⟩
      rintro ⟨τ, H9⟩ ⟨h9, t2, t5, t6, t8, t10, t12, t13, t108, t109, t110, t152, -⟩
      dsimp only at h9 t2 t5 t6 t8 t10 t12 t13 t108 t109 t110 t152
      subst h9
      simp only [List.drop_succ_cons, List.drop_zero]
      by_cases hf2 : 0 < fi
      · have j1 := hcl2 hf2
        have j3 := hcl4 hf2
        cases dA <;> cases sB
        · have j4 := j3 rfl; subst j4; (refine ⟨_, by simp -implicitDefEqProofs [dinsL, dins, t5, t6, t8, t12, t13, t152, hi, rf1, k0, k1, k2', as1, ad1, bs1, bd1, hf2, hs', hd']; rfl, by simp, ?_⟩; refine wa_cond (t := false) (by simp) (fun h => by cases h) (fun _ => wa_skip ?_); exact ⟨by simp [t110], by simp [t109], _, by simp [Rg, t2, t5, t6, t8, t10, t108], hHX.symm⟩)
        · (refine ⟨_, by simp -implicitDefEqProofs [dinsL, dins, t5, t6, t8, t12, t13, t152, hi, rf1, k0, k1, k2', as1, ad1, bs1, bd1, hf2, hs', hd']; rfl, by simp, ?_⟩; refine wa_cond (t := false) (by simp) (fun h => by cases h) (fun _ => wa_skip ?_); exact ⟨by simp [t110], by simp [t109], _, by simp [Rg, t2, t5, t6, t8, t10, t108], hHX.symm⟩)
        · have j4 := j3 rfl; have j2 := j1 rfl; subst j4; subst j2; (refine ⟨_, by simp -implicitDefEqProofs [dinsL, dins, t5, t6, t8, t12, t13, t152, hi, rf1, k0, k1, k2', as1, ad1, bs1, bd1, hf2, hs', hd']; rfl, by simp, ?_⟩; refine wa_cond (t := false) (by simp) (fun h => by cases h) (fun _ => wa_skip ?_); exact ⟨by simp [t110], by simp [t109], _, by simp [Rg, t2, t5, t6, t8, t10, t108], hHX.symm⟩)
        · have j2 := j1 rfl; subst j2; (refine ⟨_, by simp -implicitDefEqProofs [dinsL, dins, t5, t6, t8, t12, t13, t152, hi, rf1, k0, k1, k2', as1, ad1, bs1, bd1, hf2, hs', hd']; rfl, by simp, ?_⟩; refine wa_cond (t := false) (by simp) (fun h => by cases h) (fun _ => wa_skip ?_); exact ⟨by simp [t110], by simp [t109], _, by simp [Rg, t2, t5, t6, t8, t10, t108], hHX.symm⟩)
      · (refine ⟨_, by simp -implicitDefEqProofs [dinsL, dins, t5, t6, t8, t12, t13, t152, hi, rf1, k0, k1, k2', as1, ad1, bs1, bd1, hf2, hs', hd']; rfl, by simp, ?_⟩; refine wa_cond (t := false) (by simp) (fun h => by cases h) (fun _ => wa_skip ?_); exact ⟨by simp [t110], by simp [t109], _, by simp [Rg, t2, t5, t6, t8, t10, t108], hHX.symm⟩)
    · rintro L τ H9 ⟨t2, t5, t6, t8, t10, -⟩ h'
      exact ⟨⟨L, h'⟩, by simp [Rg, t2, t6, t10]⟩
  clear t2 t5 t6 t8 t10 τ
  rintro ⟨τ, H9⟩ ⟨⟨L, h'⟩, t2, t6, t10, -⟩
  dsimp only at h' t2 t6 t10
  subst h'
  obtain ⟨G6, e6⟩ := awake04 (H' ++ L)
  rw [List.append_assoc] at e6
  have rT := rA L T hTv
  have qL := q L
  simp only [hT] at qL
  generalize oA T = bt at *
  refine wa_sr ⟨_, by simp -implicitDefEqProofs [t2, t6, t10, qL, rT, hTv, e6]; rfl, ?_⟩
  exact wa_ret ⟨by simp, _, by simp; rfl, rfl⟩
end Go.Proofs.Ytpojdgeginigjaa
