/- NetFirst: the walk. -/
import Derived.Test.YtpojdgeginigjaaNe
import Derived.Test.YtpojdgeginigjaaNaF
set_option linter.unusedSimpArgs false
set_option linter.unusedVariables false
namespace Go.Proofs.Ytpojdgeginigjaa
open Go Go.Ar
set_option maxRecDepth 100000

theorem Hp_nil (H G : Heap) : H ++ G ++ [] = H ++ G := by simp

theorem among_p {x n : Int} (h1 : 1 ≤ n) (h2 : n ≤ 2 ^ 40) (H : Heap) : pcall (callL E) [] (.f 29) [.int .i64 x, .int .i64 n] H = some (.int .i64 (x % n), H) := pcall_same (among_ok h1 h2 _)

set_option maxHeartbeats 4000000 in
theorem first_law {H : Heap} {n : Net} {a : V} (h : AL H a n.arcs) (hx : Sl a) (hcap : ∀ x, x ∈ n.arcs → x.cap ≤ 9223372036854775807) :
    ∃ v H', callL E (.f 3) [NV n a] H = some (v, H') ∧ v = .bool true := by
  refine call_E rfl nc3 rfl ?_
  unfold gc3
  have hl : lenOf a = some n.arcs.length := Rw.len h
  have hA := h.app [nbox n a]
  unfold NV
  refine wa_sr ⟨_, by simp [len_cells hl]; rfl, ?_⟩
  refine wa_sr ⟨_, by simp [hl]; rfl, ?_⟩
  by_cases hbig : 300 < n.arcs.length
  · have hb' : (300 : Int) < n.arcs.length := by omega
    refine wa_if (t := true) (by simp; omega) (fun _ => ?_) (fun h => by cases h)
    refine wa_sr ⟨_, by simp [call_yes (k := 26) rfl]; rfl, ?_⟩
    exact wa_rt ⟨by simp, _, by simp; rfl, rfl⟩
  refine wa_if (t := false) (by simp; omega) (fun h => by cases h) (fun _ => ?_)
  obtain ⟨x, H1, c1, ⟨G1, hG1⟩, c3⟩ := copy_ok hA hx (by omega)
  unfold nbox NV at c1
  have hxs : x.scalar = true := len_scalar (Rw.len c3.al)
  refine wa_sr ⟨_, by
    simp -implicitDefEqProofs [c1, hxs]
    rfl, ?_⟩
  have hm0 : MB (H ++ [nbox n a]).length (H1 ++ [nbox n x]) H1.length n x := ⟨by rw [hG1]; simp, by simp, (c3.app _), fun k hk => by have := Rw.lt c3.al k hk; omega⟩
  change WP E _ ⟨_, H1 ++ [nbox n x]⟩ _
  generalize (H ++ [nbox n a]).length = B at *
  generalize hH2 : H1 ++ [nbox n x] = H2 at *
  generalize hk3 : H1.length = k3 at *
  refine wa_sr ⟨_, by simp; rfl, ?_⟩
  refine wa_sr ⟨_, by simp; rfl, ?_⟩
  have hF0 : FirstI 0 0 n := ⟨.inl ⟨rfl, rfl⟩, (rules_iff n 0).2 ⟨by omega, by omega, by omega, by omega, by omega, by omega⟩, by omega, hcap⟩
  refine wa_cut (fun _ => False) ?_ (fun _ h => h.elim)
  refine wa_for (n := 7) (fun i (y : Net × V × Int) => [(3, .ptr k3 0), (4, .int .i64 y.2.2)]) (fun i y H' => FirstI i y.2.2 y.1 ∧ MB B H' k3 y.1 y.2.1) (n, x, 0)
    (by decide) (fun i hi => w64 (by omega) (by omega)) (by simp) (by simp) (by simp [Rg]) ⟨hF0, hm0⟩ (by simp) ?_ ?_
  case refine_2 =>
    rintro ⟨m, x, last⟩ τ H3 _ ⟨hF, _⟩
    have := hF.hi
    simp only at this
    omega
  rintro i ⟨m, x, last⟩ τ H3 hi t19 - ⟨t3, t4, -⟩ ⟨hF, hM⟩
  dsimp only [ev] at *
  clear hl hA c1 c3 hxs hm0 hH2 hk3 hF0 hG1 H2 H1 G1
  have hml := hF.len
  obtain ⟨G3, hc⟩ := (pc_check hM.own.al (by omega)).run
  have hr4 := hM.rd []
  rw [List.append_nil] at hr4
  have hM3 := hM.app G3
  refine wa_sr ⟨_, by
    simp -implicitDefEqProofs [t3, hr4]
    rw [show V.agg [V.int .i64 m.N, .int .i64 m.S, .int .i64 m.T, x] = NV m x from rfl, hc]
    rfl, ?_⟩
  dsimp only
  generalize H3 ++ G3 = H4 at *
  clear hc hr4 hM
  refine wa_rg [(3, .ptr k3 0), (4, .int .i64 last), (5, .int .i64 (chk m)), (19, .int .i64 i)] (by simp [Rg, t3, t4, t19]) ?_
  rintro τ1 ⟨u3, u4, u5, u19, -⟩
  dsimp only at u3 u4 u5 u19
  clear t3 t4 t19 τ
  refine wa_sr ⟨_, by simp [u5]; rfl, ?_⟩
  by_cases h0 : chk m = 0
  · refine wa_if (t := true) (by simp [h0]) (fun _ => ?_) (fun h => by cases h)
    refine wa_sr ⟨_, by simp [call_yes (k := 26) rfl]; rfl, ?_⟩
    exact wa_rt ⟨by simp, _, by simp; rfl, rfl⟩
  obtain ⟨e1, e2, e3, e4⟩ := first_step hF h0
  have n1 : ¬ chk m ≤ last := by omega
  have n2 : ¬ chk m < 10 := by omega
  have n3 : ¬ 15 < chk m := by omega
  refine wa_if (t := false) (by simp [h0]) (fun h => by cases h) (fun _ => ?_)
  refine wa_sr ⟨_, by simp -implicitDefEqProofs [u4, u5, n1, n2, n3]; rfl, ?_⟩
  refine wa_if (t := false) (by simp [n3]) (fun h => by cases h) (fun _ => ?_)
  refine wa_sr ⟨_, by simp [u5]; rfl, ?_⟩
  refine wa_sr ⟨_, by simp [u5]; rfl, ?_⟩
  refine wa_rg [(3, .ptr k3 0), (4, .int .i64 (chk m)), (38, .int .i64 (chk m)), (19, .int .i64 i)] (by simp [Rg, u3, u4, u5, u19]) ?_
  rintro τ ⟨v3, v4, v38, v19, -⟩
  dsimp only at v3 v4 v38 v19
  clear u3 u4 u5 u19 τ1
  have hwd : ∀ i : Nat, i < m.arcs.length → IntKind.i64.wrap ((i : Int) + 1) = (i : Int) + 1 := fun i hi => w64 (by omega) (by omega)
  have r3 := hM3.rd3 []
  have r0 := hM3.rd0 []
  rw [List.append_nil] at r3 r0
  have hxl : lenOf x = some m.arcs.length := Rw.len hM3.own.al
  refine wa_block ?_
  rcases e4 with ⟨ec, hF'⟩ | ⟨ec, hF'⟩ | ⟨ec, hN1, hN2, hF'⟩ | ⟨ec, hF'⟩ | ⟨ec, hF'⟩
  · rw [ec] at v38 v4
    have hw : IntKind.i64.wrap (2 + m.N % 4000) = 2 + m.N % 4000 := w64 (by omega) (by omega)
    obtain ⟨H5, w5, hM5⟩ : ∃ X, wr H4 k3 0 [.int .i64 (2 + m.N % 4000)] = some X ∧ MB B X k3 (fixN m) x :=
      ⟨_, wr1 (o := 0) (v := .int .i64 (2 + m.N % 4000)) (cs := [.int .i64 m.N, .int .i64 m.S, .int .i64 m.T, x]) hM3.box rfl (by simp) rfl, hM3.put (m' := fixN m) rfl⟩
    refine wa_sr ⟨_, by simp [v38]; rfl, ?_⟩
    refine wa_cond (t := true) (by simp) (fun _ => ?_) (fun h => by cases h)
    refine wa_regs ⟨_, by simp -implicitDefEqProofs [v3, r0, among_ok, hw, w5]; rfl, ?_⟩
    exact ⟨by simp [v19], rfl, (fixN m, x, 10), by simp [Rg, v3, v4], hF', hM5⟩
  · rw [ec] at v38 v4
    obtain ⟨H5, w5, hM5⟩ : ∃ X, wr H4 k3 1 [.int .i64 0] = some X ∧ MB B X k3 { m with S := 0 } x :=
      ⟨_, wr1 (o := 1) (v := .int .i64 0) (cs := [.int .i64 m.N, .int .i64 m.S, .int .i64 m.T, x]) hM3.box rfl (by simp) rfl, hM3.put (m' := { m with S := 0 }) rfl⟩
    obtain ⟨H6, w6, hM6⟩ : ∃ X, wr H5 k3 2 [.int .i64 1] = some X ∧ MB B X k3 (fixE m) x :=
      ⟨_, wr1 (o := 2) (v := .int .i64 1) (cs := [.int .i64 m.N, .int .i64 0, .int .i64 m.T, x]) hM5.box rfl (by simp) rfl, hM5.put (m' := fixE m) rfl⟩
    refine wa_sr ⟨_, by simp [v38]; rfl, ?_⟩
    refine wa_cond (t := false) (by simp) (fun h => by cases h) (fun _ => ?_)
    refine wa_sr ⟨_, by simp [v38]; rfl, ?_⟩
    refine wa_cond (t := true) (by simp) (fun _ => ?_) (fun h => by cases h)
    refine wa_regs ⟨_, by simp -implicitDefEqProofs [v3, w5, w6]; rfl, ?_⟩
    exact ⟨by simp [v19], rfl, (fixE m, x, 12), by simp [Rg, v3, v4], hF', hM6⟩
  · rw [ec] at v38 v4
    refine wa_sr ⟨_, by simp [v38]; rfl, ?_⟩
    refine wa_cond (t := false) (by simp) (fun h => by cases h) (fun _ => ?_)
    refine wa_sr ⟨_, by simp [v38]; rfl, ?_⟩
    refine wa_cond (t := false) (by simp) (fun h => by cases h) (fun _ => ?_)
    refine wa_sr ⟨_, by simp [v38]; rfl, ?_⟩
    refine wa_cond (t := true) (by simp) (fun _ => ?_) (fun h => by cases h)
    refine wa_sr ⟨_, by simp [v3, r3, hxl]; rfl, ?_⟩
    let g : Ar.Arc → Ar.Arc := fun a => ⟨a.src % m.N, a.dst % m.N, a.cap⟩
    refine wa_for (n := m.arcs.length) (fun j (_ : Unit) => [(3, .ptr k3 0), (4, .int .i64 13), (19, .int .i64 i), (53, x)]) (fun j _ H' => MB B H' k3 { m with arcs := mixL g m.arcs j } x) ()
      (by decide) hwd (by simp) (by simp) (by simp [Rg, v3, v4, v19]) (by simpa [mixL] using hM3) (by simp) ?_ ?_
    · rintro j _ τ H5 hj t55 t54 ⟨v3, v4, v19, v53, -⟩ hM5
      dsimp only [ev] at *
      obtain ⟨k, hxe, hkB, hk5, hrd, _⟩ := hM5.arc (i := j) (by rw [mixL_length _ _ _ (by omega)]; exact hj)
      simp only [mixL_length _ _ _ (Nat.le_of_lt hj)] at hxe
      simp only [mixL_get g _ _ hj] at hrd
      have hrd0 := hrd []
      rw [List.append_nil] at hrd0
      unfold Arc.cells at hrd0
      refine wa_sr ⟨_, by simp -implicitDefEqProofs [v53, t55, hxe, hj, hrd0]; rfl, ?_⟩
      have hM6 := hM5.app [.cells (m.arcs[j].cells) .ex]
      have hk7 : ∀ o, rd (H5 ++ [.cells (m.arcs[j].cells) .ex]) H5.length o = m.arcs[j].cells[o]? := fun o => by simp
      change WP E _ ⟨_, H5 ++ [.cells (m.arcs[j].cells) .ex]⟩ _
      have hl6 : (H5 ++ [Blk.cells (m.arcs[j].cells) .ex]).length = H5.length + 1 := by simp
      generalize H5 ++ [Blk.cells (m.arcs[j].cells) .ex] = H6 at *
      generalize hk7e : H5.length = k7 at *
      have q0 := hM6.rd0 []
      have q3 := hM6.rd3 []
      rw [List.append_nil] at q0 q3
      dsimp only at q0
      have p0 : rd H6 k7 0 = some (.int .i64 m.arcs[j].src) := hk7 0
      have p1 : rd H6 k7 1 = some (.int .i64 m.arcs[j].dst) := hk7 1
      obtain ⟨k', hxe', _, _, _, hwr⟩ := hM6.arc (i := j) (by simp only; rw [mixL_length _ _ _ (by omega)]; exact hj)
      rw [hxe] at hxe'
      simp only [mixL_length _ _ _ (Nat.le_of_lt hj)] at hxe'
      cases hxe'
      simp only [mixL_get g _ _ hj] at hwr
      have hM6l := hM6.lt
      obtain ⟨H7, w7, l7, hM7, _⟩ := hwr 0 (.int .i64 (m.arcs[j].src % m.N)) ⟨m.arcs[j].src % m.N, m.arcs[j].dst, m.arcs[j].cap⟩ (by omega) rfl rfl
      obtain ⟨k'', hxe'', _, _, _, hwr2⟩ := hM7.arc (i := j) (by simp; rw [mixL_length _ _ _ (by omega)]; exact hj)
      rw [hxe] at hxe''
      simp only [List.length_set, mixL_length _ _ _ (Nat.le_of_lt hj)] at hxe''
      cases hxe''
      obtain ⟨H8, w8, l8, hM8, _⟩ := hwr2 1 (.int .i64 (m.arcs[j].dst % m.N)) (g m.arcs[j]) (by omega) rfl (by simp [Arc.cells, g])
      simp only [List.set_set, mixL_set g _ _ hj] at hM8
      have hne : k3 ≠ k := fun e => hM6.ne k (by rw [hxe]; rfl) e.symm
      simp only [Nat.add_zero] at w7
      refine WP.mono (wa_dreg (Q := fun e s => e = .normal ∧ s.H = H8 ∧ Rg s.τ [(3, .ptr k3 0), (4, .int .i64 13), (19, .int .i64 i), (53, x), (55, .int .i64 j), (54, .int .i64 m.arcs.length)]) (s' := _) (by
        have hap := fun x H => among_p (x := x) (n := m.N) (by omega) (by omega) H
        simp -implicitDefEqProofs [dinsL, dins, v3, q0, q3, p0, p1, hap, hxe, hj, w7, w8]
        rfl) (by simp [Chk.ok, V.blk?]; omega) ⟨rfl, rfl, by simp [Rg, v3, v4, v19, v53, t55, t54, hxe]⟩) ?_
      rintro e ⟨τ, H'⟩ ⟨rfl, hH', x3, x4, x19, x53, x55, x54, -⟩
      dsimp only at hH' x3 x4 x19 x53 x55 x54
      subst hH'
      exact ⟨x55, x54, (), by simp [Rg, x3, x4, x19, x53], hM8⟩
    · rintro _ τ H5 ⟨v3, v4, v19, v53, -⟩ hM5
      rw [mixL_full] at hM5
      exact ⟨by simp [v19], rfl, (fixA m, x, 13), by simp [Rg, v3, v4], hF', hM5⟩
  · rw [ec] at v38 v4
    refine wa_sr ⟨_, by simp [v38]; rfl, ?_⟩
    refine wa_cond (t := false) (by simp) (fun h => by cases h) (fun _ => ?_)
    refine wa_sr ⟨_, by simp [v38]; rfl, ?_⟩
    refine wa_cond (t := false) (by simp) (fun h => by cases h) (fun _ => ?_)
    refine wa_sr ⟨_, by simp [v38]; rfl, ?_⟩
    refine wa_cond (t := false) (by simp) (fun h => by cases h) (fun _ => ?_)
    refine wa_sr ⟨_, by simp [v38]; rfl, ?_⟩
    refine wa_cond (t := true) (by simp) (fun _ => ?_) (fun h => by cases h)
    refine wa_sr ⟨_, by simp [v3, r3, hxl]; rfl, ?_⟩
    let g : Ar.Arc → Ar.Arc := fun a => ⟨a.src, a.dst, if a.cap < 0 then 0 else a.cap⟩
    refine wa_for (n := m.arcs.length) (fun j (_ : Unit) => [(3, .ptr k3 0), (4, .int .i64 14), (19, .int .i64 i), (84, x)]) (fun j _ H' => MB B H' k3 { m with arcs := mixL g m.arcs j } x) ()
      (by decide) hwd (by simp) (by simp) (by simp [Rg, v3, v4, v19]) (by simpa [mixL] using hM3) (by simp) ?_ ?_
    · rintro j _ τ H5 hj t86 t85 ⟨v3, v4, v19, v53, -⟩ hM5
      dsimp only [ev] at *
      obtain ⟨k, hxe, hkB, hk5, hrd, _⟩ := hM5.arc (i := j) (by rw [mixL_length _ _ _ (by omega)]; exact hj)
      simp only [mixL_length _ _ _ (Nat.le_of_lt hj)] at hxe
      simp only [mixL_get g _ _ hj] at hrd
      have hrd0 := hrd []
      rw [List.append_nil] at hrd0
      unfold Arc.cells at hrd0
      refine wa_sr ⟨_, by simp -implicitDefEqProofs [v53, t86, hxe, hj, hrd0]; rfl, ?_⟩
      have hM6 := hM5.app [.cells (m.arcs[j].cells) .ex]
      have hk7 : ∀ o, rd (H5 ++ [.cells (m.arcs[j].cells) .ex]) H5.length o = m.arcs[j].cells[o]? := fun o => by simp
      change WP E _ ⟨_, H5 ++ [.cells (m.arcs[j].cells) .ex]⟩ _
      generalize H5 ++ [Blk.cells (m.arcs[j].cells) .ex] = H6 at *
      generalize hk7e : H5.length = k7 at *
      have q3 := hM6.rd3 []
      rw [List.append_nil] at q3
      have p2 : rd H6 k7 2 = some (.int .i64 m.arcs[j].cap) := hk7 2
      obtain ⟨k', hxe', _, _, _, hwr⟩ := hM6.arc (i := j) (by simp only; rw [mixL_length _ _ _ (by omega)]; exact hj)
      rw [hxe] at hxe'
      simp only [mixL_length _ _ _ (Nat.le_of_lt hj)] at hxe'
      cases hxe'
      simp only [mixL_get g _ _ hj] at hwr
      obtain ⟨H7, w7, l7, hM7, _⟩ := hwr 2 (.int .i64 (if m.arcs[j].cap < 0 then 0 else m.arcs[j].cap)) (g m.arcs[j]) (by omega) rfl (by simp [Arc.cells, g])
      simp only [mixL_set g _ _ hj] at hM7
      refine wa_regs ⟨_, by simp -implicitDefEqProofs [v3, q3, p2, hxe, hj, w7]; rfl, ?_⟩
      exact ⟨by simp [t86], by simp [t85], (), by simp [Rg, v3, v4, v19, v53, hxe], hM7⟩
    · rintro _ τ H5 ⟨v3, v4, v19, v53, -⟩ hM5
      rw [mixL_full] at hM5
      exact ⟨by simp [v19], rfl, (fixC m, x, 14), by simp [Rg, v3, v4], hF', hM5⟩
  · rw [ec] at v38 v4
    refine wa_sr ⟨_, by simp [v38]; rfl, ?_⟩
    refine wa_cond (t := false) (by simp) (fun h => by cases h) (fun _ => ?_)
    refine wa_sr ⟨_, by simp [v38]; rfl, ?_⟩
    refine wa_cond (t := false) (by simp) (fun h => by cases h) (fun _ => ?_)
    refine wa_sr ⟨_, by simp [v38]; rfl, ?_⟩
    refine wa_cond (t := false) (by simp) (fun h => by cases h) (fun _ => ?_)
    refine wa_sr ⟨_, by simp [v38]; rfl, ?_⟩
    refine wa_cond (t := false) (by simp) (fun h => by cases h) (fun _ => ?_)
    refine wa_sr ⟨_, by simp [v38]; rfl, ?_⟩
    refine wa_cond (t := true) (by simp) (fun _ => ?_) (fun h => by cases h)
    refine wa_sr ⟨_, by simp [v3, r3, hxl]; rfl, ?_⟩
    let g : Ar.Arc → Ar.Arc := fun a => ⟨a.src, a.dst, a.cap.fdiv 1024⟩
    refine wa_for (n := m.arcs.length) (fun j (_ : Unit) => [(3, .ptr k3 0), (4, .int .i64 15), (19, .int .i64 i), (103, x)]) (fun j _ H' => MB B H' k3 { m with arcs := mixL g m.arcs j } x) ()
      (by decide) hwd (by simp) (by simp) (by simp [Rg, v3, v4, v19]) (by simpa [mixL] using hM3) (by simp) ?_ ?_
    · rintro j _ τ H5 hj t105 t104 ⟨v3, v4, v19, v53, -⟩ hM5
      dsimp only [ev] at *
      obtain ⟨k, hxe, hkB, hk5, hrd, _⟩ := hM5.arc (i := j) (by rw [mixL_length _ _ _ (by omega)]; exact hj)
      simp only [mixL_length _ _ _ (Nat.le_of_lt hj)] at hxe
      simp only [mixL_get g _ _ hj] at hrd
      have hrd0 := hrd []
      rw [List.append_nil] at hrd0
      unfold Arc.cells at hrd0
      refine wa_sr ⟨_, by simp -implicitDefEqProofs [v53, t105, hxe, hj, hrd0]; rfl, ?_⟩
      have hM6 := hM5.app [.cells (m.arcs[j].cells) .ex]
      have hk7 : ∀ o, rd (H5 ++ [.cells (m.arcs[j].cells) .ex]) H5.length o = m.arcs[j].cells[o]? := fun o => by simp
      change WP E _ ⟨_, H5 ++ [.cells (m.arcs[j].cells) .ex]⟩ _
      generalize H5 ++ [Blk.cells (m.arcs[j].cells) .ex] = H6 at *
      generalize hk7e : H5.length = k7 at *
      have q3 := hM6.rd3 []
      rw [List.append_nil] at q3
      have p2 : rd H6 k7 2 = some (.int .i64 m.arcs[j].cap) := hk7 2
      obtain ⟨k', hxe', _, _, _, hwr⟩ := hM6.arc (i := j) (by simp only; rw [mixL_length _ _ _ (by omega)]; exact hj)
      rw [hxe] at hxe'
      simp only [mixL_length _ _ _ (Nat.le_of_lt hj)] at hxe'
      cases hxe'
      simp only [mixL_get g _ _ hj] at hwr
      obtain ⟨H7, w7, l7, hM7, _⟩ := hwr 2 (.int .i64 (m.arcs[j].cap.fdiv 1024)) (g m.arcs[j]) (by omega) rfl (by simp [Arc.cells, g])
      simp only [mixL_set g _ _ hj] at hM7
      have hsh : ∀ c, binop .shr (.int .i64 c) (.int .u64 10) = some (.int .i64 (c.fdiv 1024)) := fun c => rfl
      refine wa_regs ⟨_, by simp -implicitDefEqProofs [-binop, hsh, v3, q3, p2, hxe, hj, w7]; rfl, ?_⟩
      exact ⟨by simp [t105], by simp [t104], (), by simp [Rg, v3, v4, v19, v53, hxe], hM7⟩
    · rintro _ τ H5 ⟨v3, v4, v19, v53, -⟩ hM5
      rw [mixL_full] at hM5
      exact ⟨by simp [v19], rfl, (fixS m, x, 15), by simp [Rg, v3, v4], hF', hM5⟩
end Go.Proofs.Ytpojdgeginigjaa
