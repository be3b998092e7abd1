/- New. -/
import Derived.Test.YteogambpkgkmhaaSd
set_option linter.unusedSimpArgs false
set_option linter.unusedVariables false
namespace Go.Proofs.Yteogambpkgkmhaa
open Go Go.Ar
set_option maxRecDepth 100000

theorem clone_nil {H : Heap} : callL E (.f 15) [.nils] H = some (.nils, H) := by
  rw [call_E rfl fc15_ok rfl]
  simp [fc15, execL_cond]

/-- A row of whole numbers, copied. -/
theorem clone_ok {H : Heap} {k o n c : Nat} {zs : List Int} (h : IL .i64 H (.sl k o n c) zs) (hz : zs.length ≤ 2 ^ 20) :
    ∃ x H', callL E (.f 15) [.sl k o n c] H = some (x, H') ∧ H.length ≤ H'.length ∧ (∀ j, j < H.length → H'[j]? = H[j]?) ∧ IL .i64 H' x zs ∧ (zs ≠ [] → SlG H' 1 x) ∧ ∀ j, x.blk? = some j → H.length ≤ j ∧ j < H'.length := by
  rw [call_E rfl fc15_ok rfl]
  have hl := h.len
  have hc := h.cells
  have hn : n = zs.length := by simpa [lenOf] using hl
  subst hn
  simp only [cellsOf] at hc
  obtain ⟨⟨b, hb, _⟩, hfr⟩ := rdn_at hc
  have hk : k < H.length := (List.getElem?_eq_some_iff.1 hb).1
  have hc1 : rdn (H ++ [.cells [] .ex]) k o (zs.length * 1) = some (zs.map (.int .i64)) := hfr _ (by rw [List.getElem?_append_left hk])
  have hsc : (zs.map (V.int .i64)).all V.scalar = true := by simp [V.scalar]
  by_cases h0 : zs = []
  · subst h0
    have ha : appendv (H ++ [.cells [] .ex]) 1 8 (.sl H.length 0 0 0) (.sl k o 0 c) = some (.sl H.length 0 0 0, H ++ [.cells [] .ex]) := by
      simp only [List.length_nil] at hc1
      unfold appendv
      simp only [lenOf, cellsOf, hc1]
      simp [wr, wrc, Mode.wr]
    refine ⟨.sl H.length 0 0 0, H ++ [.cells [] .ex], by simp [fc15, execL_cond, fillc, ha], by simp, fun j hj => by rw [List.getElem?_append_left hj], ⟨rfl, by simp [cellsOf, rdn]⟩, fun h => absurd rfl h, fun j hj => ?_⟩
    simp [V.blk?] at hj; subst hj; simp
  · have hpos : ¬ (zs.length ≤ 0) := by intro e; exact h0 (List.eq_nil_of_length_eq_zero (by omega))
    have ha : appendv (H ++ [.cells [] .ex]) 1 8 (.sl H.length 0 0 0) (.sl k o zs.length c) = some (.sl (H.length + 1) 0 zs.length zs.length, H ++ [.cells [] .ex] ++ [.cells (zs.map (.int .i64)) (.gr 1)]) := by
      unfold appendv
      simp only [lenOf, cellsOf, hc1, hsc]
      have h1 : zs.length * 8 ≤ 1099511627776 ∧ zs.length ≤ lim := by unfold lim; omega
      simp [h0, h1]
    refine ⟨.sl (H.length + 1) 0 zs.length zs.length, H ++ [.cells [] .ex] ++ [.cells (zs.map (.int .i64)) (.gr 1)], by simp [fc15, execL_cond, fillc, ha], by simp, fun j hj => by simp [List.getElem?_append_left, hj], ⟨rfl, ?_⟩, fun _ => ⟨Nat.le_refl _, zs.map (.int .i64), .gr 1, by simp, .inr (.inl rfl)⟩, fun j hj => ?_⟩
    · simp [cellsOf, rdn]
      rw [List.take_of_length_le (by simp)]
    · simp [V.blk?] at hj; subst hj; simp
/-- The same under prot: what is laid lies behind. -/
theorem pclone_ok {H : Heap} {hide : List Nat} {k o n c : Nat} {zs : List Int} (h : IL .i64 H (.sl k o n c) zs) (hz : zs.length ≤ 2 ^ 20) (hk : k ∉ hide) :
    ∃ x H', pcall (callL E) hide (.f 15) [.sl k o n c] H = some (x, H') ∧ H.length ≤ H'.length ∧ (∀ j, j < H.length → H'[j]? = H[j]?) ∧ IL .i64 H' x zs ∧ (zs ≠ [] → SlG H' 1 x) ∧ ∀ j, x.blk? = some j → H.length ≤ j ∧ j < H'.length := by
  obtain ⟨x, Hp, h1, h2, h3, h4, h5, h6⟩ := clone_ok (h.prot (hide := hide) (fun j hj => by simp [V.blk?] at hj; subst hj; exact hk)) hz
  rw [length_prot] at h2 h6
  refine ⟨x, H ++ Hp.drop H.length, by simp [pcall, h1], by simp, fun j hj => by rw [List.getElem?_append_left hj], ?_, ?_, ?_⟩
  · refine h4.frame fun j hj => ?_
    have := h6 j hj
    rw [List.getElem?_append_right (by omega), List.getElem?_drop]
    congr 1; omega
  · intro hne
    refine (h5 hne).frame fun j hj => ?_
    have := h6 j hj
    rw [List.getElem?_append_right (by omega), List.getElem?_drop]
    congr 1; omega
  · intro j hj
    have := h6 j hj
    simp; omega
theorem pclone_nil {H : Heap} {hide : List Nat} : pcall (callL E) hide (.f 15) [.nils] H = some (.nils, H) := pcall_same clone_nil

/-- A script, made. -/
theorem new_ok {H : Heap} {x : V} {n : Nat} {zs : List Int} (hx : x = .nils ∨ ∃ k o l c, x = .sl k o l c) (h : IL .i64 H x zs) (hz : zs.length ≤ 2 ^ 20) (h1 : 1 ≤ n) (h64 : n ≤ 64) :
    ∃ p H', callL E (.f 8) [.int .i64 n, x] H = some (.tup [.ptr (H.length + 1) 0, .int .i64 0], H') ∧ H.length + 2 ≤ H'.length ∧ (∀ j, j < H.length → H'[j]? = H[j]?) ∧ (∀ j, p.blk? = some j → H.length ≤ j) ∧ Sc H' (H.length + 1) H.length p zs (n - 1) (List.replicate n false) 0 := by
  rw [call_E rfl fc8_ok rfl]
  obtain ⟨HA, hHA⟩ : ∃ X, X = H ++ List.replicate 2 Blk.dead := ⟨_, rfl⟩
  have hlA : HA.length = H.length + 2 := by simp [hHA]
  have hA : ∀ j, j < H.length → HA[j]? = H[j]? := fun j hj => by rw [hHA, List.getElem?_append_left hj]
  have hIL : IL .i64 HA x zs := h.frame fun j hj => by
    rcases hx with rfl | ⟨k, o, l, c, rfl⟩
    · simp [V.blk?] at hj
    · simp [V.blk?] at hj; subst hj
      have hc := h.cells
      simp only [cellsOf] at hc
      obtain ⟨⟨b, hb, _⟩, _⟩ := rdn_at hc
      exact hA k (List.getElem?_eq_some_iff.1 hb).1
  have hcl : ∃ p Hc, pcall (callL E) [H.length] (.f 15) [x] HA = some (p, Hc) ∧ HA.length ≤ Hc.length ∧ (∀ j, j < HA.length → Hc[j]? = HA[j]?) ∧ IL .i64 Hc p zs ∧ (zs ≠ [] → SlG Hc 1 p) ∧ ∀ j, p.blk? = some j → HA.length ≤ j ∧ j < Hc.length := by
    rcases hx with rfl | ⟨k, o, l, c, rfl⟩
    · refine ⟨.nils, HA, pclone_nil, Nat.le_refl _, fun _ _ => rfl, hIL, fun _ => trivial, fun j hj => by simp [V.blk?] at hj⟩
    · refine pclone_ok hIL hz ?_
      have hc := h.cells
      simp only [cellsOf] at hc
      obtain ⟨⟨b, hb, _⟩, _⟩ := rdn_at hc
      have := (List.getElem?_eq_some_iff.1 hb).1
      simp; omega
  obtain ⟨p, Hc, c1, c2, c3, c4, c5, c6⟩ := hcl
  have hd0 : Hc[H.length]? = some .dead := by rw [c3 _ (by omega), hHA]; simp
  have hd1 : Hc[H.length + 1]? = some .dead := by rw [c3 _ (by omega), hHA]; simp
  obtain ⟨Hd, hHd⟩ : ∃ X, X = Hc.set H.length (.cells (List.replicate n (.bool false)) .ex) := ⟨_, rfl⟩
  have he1 : Hd[H.length + 1]? = some .dead := by rw [hHd, List.getElem?_set_ne (by omega)]; exact hd1
  obtain ⟨He, hHe⟩ : ∃ X, X = Hd.set (H.length + 1) (.cells [p, .int .i64 ((n : Int) - 1), .sl H.length 0 n n, .int .i64 0] .ex) := ⟨_, rfl⟩
  have hpc : p.cells = some [p] := Rw.one c4
  have hw : IntKind.i64.wrap ((n : Int) - 1) = (n : Int) - 1 := by simp [IntKind.wrap, IntKind.bits, IntKind.signed]; omega
  have hn1 : ¬ ((n : Int) < 1) := by omega
  have hn64 : ¬ (64 < (n : Int)) := by omega
  have key : ∃ v H', finish fc8 (execL E fc8.body ⟨args0 [.int .i64 n, x], H⟩) = some (v, H') ∧ v = .tup [.ptr (H.length + 1) 0, .int .i64 0] ∧ H' = He := by
    refine wa_finish ?_
    unfold fc8
    dsimp only
    refine wa_seq (wa_regs ⟨_, by simp; rfl, ?_⟩)
    refine wa_seq (wa_seq (wa_regs ⟨_, by simp [hn1, hn64]; rfl, ?_⟩))
    refine wa_cond (t := false) (by simp) (fun h => by cases h) (fun _ => wa_skip ?_)
    have hbig : (n : Int) ≤ 1099511627776 := by omega
    have hlim : (0 : Int) ≤ n ∧ (n : Int) ≤ (lim : Nat) ∧ (n : Int) * (1 : Nat) ≤ 2 ^ 40 := by unfold lim; omega
    refine wa_seq (wa_dreg (s' := _) (by
      rw [← hHA]
      simp [dinsL, dins, c1, newOf, hlim, hbig, flatRep, hd0, he1, ← hHd, fillc, wrc, hpc, hw, ← hHe]
      rfl) (by simp) ?_)
    refine wa_ret ?_
    exact ⟨by simp, _, rfl, rfl, rfl⟩
  have heo : ∀ j, j ≠ H.length → j ≠ H.length + 1 → He[j]? = Hc[j]? := fun j a b => by rw [hHe, List.getElem?_set_ne (by omega), hHd, List.getElem?_set_ne (by omega)]
  have hle : He.length = Hc.length := by rw [hHe, hHd]; simp
  refine ⟨p, He, ?_, by omega, fun j hj => ?_, fun j hj => by have := (c6 j hj).1; omega, ?_⟩
  · obtain ⟨v, H', e, rfl, e2⟩ := key
    rw [e2] at e
    exact e
  · rw [heo j (by omega) (by omega), c3 j (by omega)]; exact hA j hj
  · have hfr : ∀ j, p.blk? = some j → He[j]? = Hc[j]? := fun j hj => by
      have := (c6 j hj).1
      exact heo j (by omega) (by omega)
    refine ⟨?_, ?_, c4.frame hfr, fun hne => (c5 hne).frame hfr, by omega, by simp; omega, fun j hj => ?_, fun j hj => ?_⟩
    · rw [hHe, List.getElem?_set_self (by rw [hHd]; simp; omega)]; simp
    · rw [hHe, List.getElem?_set_ne (by omega), hHd, List.getElem?_set_self (by omega)]; simp
    · have := (c6 j hj).1
      omega
    · have := (c6 j hj).2
      omega
end Go.Proofs.Yteogambpkgkmhaa
