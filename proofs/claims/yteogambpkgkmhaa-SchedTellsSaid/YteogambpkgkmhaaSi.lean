/- SchedRounds: the walk. -/
import Derived.Test.YteogambpkgkmhaaSh
set_option linter.unusedSimpArgs false
set_option linter.unusedVariables false
namespace Go.Proofs.Yteogambpkgkmhaa
open Go Go.Ar
set_option maxRecDepth 100000

def Sl (x : V) : Prop := x = .nils ∨ ∃ k o l c, x = .sl k o l c
theorem slcv_sl {H : Heap} {sz : Nat} {x x' : V} {hi : Option V} (hx : Sl x) (h : slcv H sz x none hi = some x') : Sl x' := by
  rcases hx with rfl | ⟨k, o, l, c, rfl⟩
  · simp only [slcv] at h
    split at h
    · split at h
      · cases h; exact .inl rfl
      · cases h
    · cases h
  · simp only [slcv, loOf] at h
    split at h
    · rename_i a b h1 h2
      cases h2
      split at h
      · split at h <;> try (split at h) <;> try (cases h; done)
        all_goals (simp [moved] at h; try exact .inr ⟨_, _, _, _, h.symm⟩)
      · cases h
    · cases h

theorem mn_len (m : Nat) (b : Nat) : (if (b : Int) < m then (b : Int) else m) = ((min m b : Nat) : Int) := by
  split <;> omega

structure YR where
  s : PS
  km : Nat
  ws : List Nat
  r : Int

theorem rounds_law {H : Heap} {px : V} {zs : List Int} (hx : Sl px) (hp : IL .i64 H px zs) (hg : SlG H 1 px) {w st : Int} (hw : 0 ≤ w ∧ w ≤ 255) (hst : 0 ≤ st ∧ st ≤ 65535) :
    ∃ v H', callL E (.f 6) [.int .u8 w, px, .int .u16 st] H = some (v, H') ∧ v = .bool true := by
  refine call_G rfl fc6_ok gc6_ok rfl ?_
  unfold gc6 fc6
  dsimp only
  obtain ⟨m, hm, hm1, hm2⟩ : ∃ m : Nat, w.tmod 64 + 1 = (m : Int) ∧ 1 ≤ m ∧ m ≤ 64 := by
    have h1 := Int.tmod_lt_of_pos w (by omega : (0 : Int) < 64)
    have h0 : 0 ≤ w.tmod 64 := Int.tmod_nonneg _ hw.1
    exact ⟨(w.tmod 64 + 1).toNat, by omega, by omega, by omega⟩
  obtain ⟨cnt, hcnt, hcnt1⟩ : ∃ m : Nat, st.tmod 301 = (m : Int) ∧ m ≤ 300 := by
    have h1 := Int.tmod_lt_of_pos st (by omega : (0 : Int) < 301)
    have h0 : 0 ≤ st.tmod 301 := Int.tmod_nonneg _ hst.1
    exact ⟨(st.tmod 301).toNat, by omega, by omega⟩
  have hm' : (1 : Int) + w.tmod 64 = m := by omega
  have hw64 : IntKind.i64.wrap (w.tmod 64) = w.tmod 64 := w64 (by omega) (by omega)
  have hwm : IntKind.i64.wrap (m : Int) = m := w64 (by omega) (by omega)
  refine wa_sr ⟨_, by simp; rfl, ?_⟩
  refine wa_sr ⟨_, by simp [hw64, hm', hwm]; rfl, ?_⟩
  have hl := hp.len
  obtain ⟨x', hs1, hs2, hs3, hs4⟩ := hp.upto hg (min zs.length 100) (by omega)
  have hx' := slcv_sl hx hs1
  have hmn : (if (100 : Int) < zs.length then (100 : Int) else zs.length) = ((min zs.length 100 : Nat) : Int) := mn_len _ 100
  refine wa_sr ⟨_, by simp [hl, hmn, hs1]; rfl, ?_⟩
  obtain ⟨pb, H1, c1, c2, c3, c4, c5, c6⟩ := ss_new hx' hs2 (by simp; omega) hm1 hm2
  refine wa_sr ⟨_, by simp [c1]; rfl, ?_⟩
  refine wa_sr ⟨_, by simp; rfl, ?_⟩
  refine wa_if (t := false) (by simp) (fun h => by cases h) (fun _ => ?_)
  have hlen1 : H1.length ≥ H.length + 2 := c2
  -- the map
  refine wa_sr ⟨_, by simp; rfl, ?_⟩
  refine wa_sr ⟨_, by simp; rfl, ?_⟩
  refine wa_sr ⟨_, by simp [hcnt]; rfl, ?_⟩
  generalize hq : H.length + 1 = q at *
  generalize hkt : H.length = kt at *
  have hp0 := (Hp.refl H1).a (.mp [])
  refine wa_cut (fun s => s.τ 7 = .int .i64 m ∧ s.τ 8 = .ptr q 0 ∧ ∃ y : PS, Fit y m ∧ SS s.H q kt pb y ∧ 0 ≤ y.ended ∧ y.ended ≤ 300 ∧ H1.length ≤ s.H.length) ?_ ?_
  · refine wa_for (n := cnt) (fun i (y : YR) => [(7, .int .i64 m), (8, .ptr q 0), (10, .map y.km), (11, .int .i64 y.r)])
      (fun i y H' => Fit y.s m ∧ SS H' q kt pb y.s ∧ H1.length ≤ y.km ∧ H'[y.km]? = some (.mp (mets y.ws)) ∧ MS m y.s y.ws ∧ y.ws.length < m ∧ y.s.ended = y.r ∧ 0 ≤ y.r ∧ y.r ≤ i ∧ H1.length ≤ H'.length) ⟨new0 m (zs.take (min zs.length 100)), H1.length, [], 0⟩
      (by decide) (fun i hi => ?_) (by simp) (by simp) (by simp [Rg]) ?_ (by simp) ?_ ?_
    · simp [IntKind.wrap, IntKind.bits, IntKind.signed]; omega
    · refine ⟨fit_new _ hm1 hm2, c6.frame ?_ ?_ ?_ (by simp), Nat.le_refl _, by simp [mets], ⟨List.nodup_nil, by simp, fun x hx => ?_⟩, by simp; omega, rfl, by simp, by simp, by simp⟩
      · rw [List.getElem?_append_left (by omega)]
      · rw [List.getElem?_append_left (by omega)]
      · rw [List.getElem?_append_left (by omega)]
      · simp [new0, List.getElem?_replicate]; split <;> rfl
    · rintro i ⟨s, km, ws, r⟩ τ H2 hi t40 t39 ⟨t7, t8, t10, t11, -⟩ ⟨hf, hS, hkm, hmp, hms, hwl, he, hr0, hr1, hHl⟩
      dsimp only [ev] at *
      obtain ⟨w, n1, n2, n3⟩ := ms_step hf hms
      obtain ⟨H3, d1, d2, d3, d4⟩ := hS.next hf (d := .nils) (done := []) ⟨rfl, rfl⟩ (fun k hk => by simp [V.blk?] at hk)
      rw [n1] at d1
      simp only [Option.getD_some, Option.isSome_some] at d1
      refine wa_sr ⟨_, by simp [t8, d1]; rfl, ?_⟩
      refine wa_sr ⟨_, by simp; rfl, ?_⟩
      refine wa_if (t := false) (by simp) (fun h => by cases h) (fun _ => ?_)
      have hkm2 : km < H2.length := (List.getElem?_eq_some_iff.1 hmp).1
      have hmp3 : H3[km]? = some (.mp (mets ws)) := by rw [d3 km hkm2 (by omega) (by omega)]; exact hmp
      have hkm3 : km < H3.length := by omega
      have hmu : ∀ (τ : Nat → V) m x, ev τ m = .map km → ev τ x = .int .i64 w → aop (callL E) τ H3 (.mapupd .int m x (.c (.int .i64 1))) = some (.undef, H3.set km (.mp (mets (met1 ws w)))) := fun _ _ _ h1 h2 => mapupd_mets h1 h2 hmp3
      refine wa_sr ⟨_, by simp [-aop_mapupd, t10, hmu]; rfl, ?_⟩
      obtain ⟨H4, hH4⟩ : ∃ X, X = H3.set km (.mp (mets (met1 ws w))) := ⟨_, rfl⟩
      have h4l : H4.length = H3.length := by rw [hH4]; simp
      have h4k : H4[km]? = some (.mp (mets (met1 ws w))) := by rw [hH4, List.getElem?_set_self hkm3]
      have h4S : SS H4 q kt pb (s.next []).2 := d4.frame (by rw [hH4, List.getElem?_set_ne (by omega)]) (by rw [hH4, List.getElem?_set_ne (by omega)]) (by rw [hH4, List.getElem?_set_ne (by omega)]) (by omega)
      rw [← hH4]
      have hmpA : mpAt H4 km = some (mets (met1 ws w)) := by simp [mpAt, h4k]
      have hml : (mets (met1 ws w)).length = (met1 ws w).length := by simp [mets]
      refine wa_sr ⟨_, by simp [t10, t7, mapOf, hmpA, hml]; rfl, ?_⟩
      have hm1n : (met1 ws w).length ≤ m := nodup_le' hms n2
      have hwr : IntKind.i64.wrap (r + 1) = r + 1 := w64 (by omega) (by omega)
      by_cases hfull : (met1 ws w).length = m
      · rw [if_pos hfull] at n3
        refine wa_if (t := true) (by simp [hfull]) (fun _ => ?_) (fun h => by cases h)
        refine wa_sr ⟨_, by simp [t11, hwr]; rfl, ?_⟩
        refine wa_sr ⟨_, by simp; rfl, ?_⟩
        have h5S : SS (H4 ++ [.mp []]) q kt pb (s.next []).2 := h4S.frame (by rw [List.getElem?_append_left h4S.q_lt]) (by rw [List.getElem?_append_left h4S.kt_lt]) (by rw [List.getElem?_append_left (by omega)]) (by simp)
        have hrd := h5S.rounds (hf.next [])
        rw [n3.1, he, hwr] at hrd
        refine wa_sr ⟨_, by simp [t8, hrd]; rfl, ?_⟩
        refine wa_cond (t := false) (by simp) (fun h => by cases h) (fun _ => wa_skip ?_)
        refine ⟨by simp [t40], by simp [t39], ⟨(s.next []).2, H4.length, [], r + 1⟩, by simp [Rg, t7, t8], hf.next [], h5S, by simp only; omega, by simp [mets], n3.2, by simp; omega, by rw [n3.1, he, hwr], by simp only; omega, by simp only; omega, by simp; omega⟩
      · rw [if_neg hfull] at n3
        refine wa_if (t := false) (by simp; omega) (fun h => by cases h) (fun _ => ?_)
        have hrd := h4S.rounds (hf.next [])
        rw [n3.1, he] at hrd
        refine wa_sr ⟨_, by simp [t8, hrd, t11]; rfl, ?_⟩
        refine wa_cond (t := false) (by simp) (fun h => by cases h) (fun _ => wa_skip ?_)
        refine ⟨by simp [t40], by simp [t39], ⟨(s.next []).2, km, met1 ws w, r⟩, by simp [Rg, t7, t8, t10, t11], hf.next [], h4S, hkm, h4k, n3.2, by simp only; omega, by rw [n3.1, he], by simp only; omega, by simp only; omega, by simp only; omega⟩
    · rintro ⟨s, km, ws, r⟩ τ H2 ⟨t7, t8, t10, t11, -⟩ ⟨hf, hS, hkm, hmp, hms, hwl, he, hr0, hr1, hHl⟩
      exact ⟨t7, t8, s, hf, hS, by rw [he]; exact hr0, by rw [he]; omega, hHl⟩
  · rintro ⟨τ, H2⟩ ⟨t7, t8, y, hf, hS, e0, e1, hl2⟩
    simp only at t7 t8 hS hl2
    have hwd : ∀ i : Nat, i < m → IntKind.i64.wrap ((i : Int) + 1) = (i : Int) + 1 := fun i hi => w64 (by omega) (by omega)
    obtain ⟨c, hq2, hcm⟩ : ∃ c : Nat, (m : Int).tdiv 2 = (c : Int) ∧ c < m := ⟨m / 2, by rw [Int.tdiv_eq_ediv_of_nonneg (by omega)]; omega, by omega⟩
    have hwq : IntKind.i64.wrap (c : Int) = (c : Int) := w64 (by omega) (by omega)
    have hlimm : (0 : Int) ≤ m ∧ (m : Int) ≤ (lim : Nat) ∧ (m : Int) * (1 : Nat) ≤ 2 ^ 40 := by unfold lim; omega
    have hbig : (m : Int) ≤ 1099511627776 := by omega
    have hql := hS.q_lt
    have hktl := hS.kt_lt
    refine wa_sr ⟨_, by simp [t7, hlimm, hbig, flatRep]; rfl, ?_⟩
    refine wa_sr ⟨_, by simp; rfl, ?_⟩
    let f : Nat → Bool := fun j => decide (j ≠ c)
    have hSp : SS (H2 ++ [.cells (List.replicate m (.bool false)) .ex]) q kt pb y := hS.frame (by rw [List.getElem?_append_left (by omega)]) (by rw [List.getElem?_append_left (by omega)]) (by rw [List.getElem?_append_left (by omega)]) (by simp)
    have hSk : (H2 ++ [.cells (List.replicate m (.bool false)) .ex])[H2.length]? = some (Blk.cells ((fillL f false m 0).map .bool) .ex) := by rw [fillL_zero]; simp
    generalize hko : H2.length = ko at *
    refine wa_cut (fun s => s.τ 7 = .int .i64 m ∧ s.τ 8 = .ptr q 0 ∧ s.τ 14 = .sl ko 0 m m ∧ SS s.H q kt pb y ∧ s.H[ko]? = some (.cells (((List.range m).map f).map .bool) .ex)) ?_ ?_
    · refine wa_for (n := m) (fun i (_ : Unit) => [(7, .int .i64 m), (8, .ptr q 0), (14, .sl ko 0 m m)]) (fun i _ H' => SS H' q kt pb y ∧ H'[ko]? = some (.cells ((fillL f false m i).map .bool) .ex)) ()
        (by decide) hwd (by simp) (by simp) (by simp [Rg, t7, t8]) ⟨hSp, hSk⟩ (by simp) ?_ ?_
      · rintro i _ τ H3 hi t67 t66 ⟨u7, u8, u14, -⟩ ⟨hS3, hk3⟩
        dsimp only [ev] at *
        have hwr : wr H3 ko i [.bool (f i)] = some (H3.set ko (.cells ((fillL f false m (i + 1)).map .bool) .ex)) := by
          rw [wrB hk3 rfl (by rw [fillL_length]; exact hi), fillL_set _ _ _ _ hi]
        have hfi : f i = ((i : Int) != (c : Int)) := by
          have : ((i : Int) == (c : Int)) = decide (i = c) := by rw [int_beq]; rfl
          simp only [f, bne, this, decide_not]
        rw [hfi] at hwr
        have hk3l : ko < H3.length := (List.getElem?_eq_some_iff.1 hk3).1
        refine wa_sr ⟨_, by simp [t67]; rfl, ?_⟩
        refine wa_regs ⟨_, by simp [u7, u14, hi, hq2, hwq, hwr]; rfl, ?_⟩
        refine ⟨by simp [t67], by simp [t66], (), by simp [Rg, u7, u8, u14], hS3.frame ?_ ?_ ?_ (by simp), by simp [hk3l]⟩
        · rw [List.getElem?_set_ne (by omega)]
        · rw [List.getElem?_set_ne (by omega)]
        · rw [List.getElem?_set_ne (by omega)]
      · rintro _ τ H3 ⟨u7, u8, u14, -⟩ ⟨hS3, hk3⟩
        exact ⟨u7, u8, u14, hS3, by rw [fillL_full] at hk3; exact hk3⟩
    · rintro ⟨τ, H3⟩ ⟨u7, u8, u14, hS3, hk3⟩
      simp only at u7 u8 u14 hS3 hk3
      have hrd := hS3.rounds hf
      refine wa_sr ⟨_, by simp [u8, hrd]; rfl, ?_⟩
      refine wa_sr ⟨_, by simp; rfl, ?_⟩
      have hfd : ∀ i, i < m → ((List.range m).map f).getD i false = decide (i ≠ c) := fun i hi => by simp [f, hi]
      refine wa_cut (fun s => True) ?_ ?_
      · refine wa_for (n := 5) (fun i (y' : PS) => [(7, .int .i64 m), (8, .ptr q 0), (14, .sl ko 0 m m), (16, .int .i64 y.ended)]) (fun i y' H' => Fit y' m ∧ SS H' q kt pb y' ∧ H'[ko]? = some (.cells (((List.range m).map f).map .bool) .ex) ∧ y'.ended = y.ended + i) y
          (by decide) (fun i hi => w64 (by omega) (by omega)) (by simp) (by simp) (by simp [Rg, u7, u8, u14]) ⟨hf, hS3, hk3, by simp⟩ (by simp) ?_ ?_
        · rintro i y' τ H4 hi t80 - ⟨v7, v8, v14, v16, -⟩ ⟨hf4, hS4, hk4, he4⟩
          dsimp only [ev] at *
          have hbl : BL H4 (.sl ko 0 m m) ((List.range m).map f) := by
            have := BL.own (c := m) hk4
            simpa using this
          obtain ⟨H5, d1, d2, d3, d4⟩ := hS4.next hf4 hbl (fun k hk => by simp [V.blk?] at hk; subst hk; omega)
          obtain ⟨o1, o2⟩ := one_step (c := c) hf4 hcm hfd
          rw [o1] at d1
          simp only [Option.getD_some, Option.isSome_some] at d1
          have hrd5 := d4.rounds (hf4.next _)
          have hw5 : IntKind.i64.wrap (y.ended + i + 1) = y.ended + i + 1 := w64 (by omega) (by omega)
          have hw6 : IntKind.i64.wrap (y.ended + i) = y.ended + i := w64 (by omega) (by omega)
          rw [o2, he4, hw5] at hrd5
          have hk5 : H5[ko]? = some (.cells (((List.range m).map f).map .bool) .ex) := by
            rw [d3 ko (List.getElem?_eq_some_iff.1 hk4).1 (by omega) (by omega)]; exact hk4
          refine wa_sr ⟨_, by simp [t80]; rfl, ?_⟩
          refine wa_sr ⟨_, by simp [v8, v14, d1]; rfl, ?_⟩
          refine wa_sr ⟨_, by simp [v7, v8, v16, hq2, hwq, hrd5, hw5, hw6]; rfl, ?_⟩
          refine wa_cond (t := false) (by simp) (fun h => by cases h) (fun _ => wa_skip ?_)
          exact ⟨by simp [t80], by simp, _, by simp [Rg, v7, v8, v14, v16], hf4.next _, d4, hk5, by rw [o2, he4, hw5]; omega⟩
        · rintro y' τ H4 - -
          trivial
      · rintro ⟨τ, H4⟩ -
        refine wa_sr ⟨_, by simp [call_awake]; rfl, ?_⟩
        refine wa_ret ?_
        exact ⟨by simp, _, by simp; rfl, rfl⟩
end Go.Proofs.Yteogambpkgkmhaa
