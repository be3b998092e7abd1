/- SchedFair: the walk. -/
import Derived.Test.YteogambpkgkmhaaSk
import Derived.Test.YteogambpkgkmhaaAr28
set_option linter.unusedSimpArgs false
set_option linter.unusedVariables false
namespace Go.Proofs.Yteogambpkgkmhaa
open Go Go.Ar
set_option maxRecDepth 100000

/-- A sum, from the front. -/
def psum (f : Nat → Int) : Nat → Int
  | 0 => 0
  | n + 1 => psum f n + f n
theorem psum_eq (f : Nat → Int) (n : Nat) : ((List.range n).map f).sum = psum f n := by
  induction n with
  | zero => rfl
  | succ n ih => rw [List.range_succ, List.map_append, List.sum_append, ih]; simp [psum]
theorem psum_le {f : Nat → Int} {c : Int} (h : ∀ i, 0 ≤ f i ∧ f i ≤ c) (n : Nat) : 0 ≤ psum f n ∧ psum f n ≤ c * n := by
  induction n with
  | zero => simp [psum]
  | succ n ih =>
    have := h n
    simp only [psum]
    rw [Int.natCast_add, Int.mul_add]
    omega

set_option maxHeartbeats 4000000 in
theorem fair_law {H : Heap} {px py : V} {zs bs : List Int} (hx : Sl px) (hp : IL .i64 H px zs) (hg : SlG H 1 px) (hq : IL .u8 H py bs) (hbs : ∀ z, z ∈ bs → 0 ≤ z ∧ z ≤ 255) {w : Int} (hw : 0 ≤ w ∧ w ≤ 255) :
    ∃ v H', callL E (.f 3) [.int .u8 w, px, py] H = some (v, H') ∧ v = .bool true := by
  refine call_G rfl fc3_ok gc3_ok rfl ?_
  unfold gc3 fc3
  dsimp only
  obtain ⟨m, hm, hm1, hm2⟩ : ∃ m : Nat, w.tmod 20 + 1 = (m : Int) ∧ 1 ≤ m ∧ m ≤ 20 := by
    have h1 := Int.tmod_lt_of_pos w (by omega : (0 : Int) < 20)
    have h0 : 0 ≤ w.tmod 20 := Int.tmod_nonneg _ hw.1
    exact ⟨(w.tmod 20 + 1).toNat, by omega, by omega, by omega⟩
  have hm' : (1 : Int) + w.tmod 20 = m := by omega
  have hw64 : IntKind.i64.wrap (w.tmod 20) = w.tmod 20 := w64 (by omega) (by omega)
  have hwm : IntKind.i64.wrap (m : Int) = m := w64 (by omega) (by omega)
  refine wa_sr ⟨_, by simp; rfl, ?_⟩
  refine wa_sr ⟨_, by simp [hw64, hm', hwm]; rfl, ?_⟩
  have hl := hp.len
  obtain ⟨x', hs1, hs2, hs3, hs4⟩ := hp.upto hg (min zs.length 60) (by omega)
  have hx' := slcv_sl hx hs1
  have hmn : (if (60 : Int) < zs.length then (60 : Int) else zs.length) = ((min zs.length 60 : Nat) : Int) := mn_len _ 60
  refine wa_sr ⟨_, by simp [hl, hmn, hs1]; rfl, ?_⟩
  obtain ⟨pb, H1, c1, c2, c3, c4, c5, c6⟩ := ss_new hx' hs2 (by simp; omega) hm1 (by omega)
  have f1 := fit_new (zs.take (min zs.length 60)) hm1 (by omega : m ≤ 64)
  have hnl : (new0 m (zs.take (min zs.length 60))).last = m - 1 := rfl
  generalize new0 m (zs.take (min zs.length 60)) = A at *
  have hq1 : IL .u8 H1 py bs := hq.frame fun k hk => c3 k (Rw.lt hq k hk)
  have hpy : ∀ k, py.blk? = some k → k < H.length := Rw.lt hq
  have hly := hq.len
  generalize hn1 : H.length = n1 at *
  refine wa_sr ⟨_, by simp [c1]; rfl, ?_⟩
  refine wa_sr ⟨_, by simp; rfl, ?_⟩
  refine wa_if (t := false) (by simp) (fun h => by cases h) (fun _ => ?_)
  have hlimm : (0 : Int) ≤ m ∧ (m : Int) ≤ (lim : Nat) ∧ (m : Int) * (1 : Nat) ≤ 2 ^ 40 := by unfold lim; omega
  have hlim8 : (0 : Int) ≤ m ∧ (m : Int) ≤ (lim : Nat) ∧ (m : Int) * (8 : Nat) ≤ 2 ^ 40 := by unfold lim; omega
  have hbig : (m : Int) ≤ 1099511627776 := by omega
  have hbig8 : (m : Int) * 8 ≤ 1099511627776 := by omega
  have hwd : ∀ i : Nat, i < m → IntKind.i64.wrap ((i : Int) + 1) = (i : Int) + 1 := fun i hi => w64 (by omega) (by omega)
  -- what is left
  let f : Nat → Int := fun j => if j < bs.length then (bs.getD j 0).tmod 12 else 3
  have hf : ∀ i, 0 ≤ f i ∧ f i ≤ 11 := fun i => by
    simp only [f]
    split
    · rename_i h
      have h0 := (hbs _ (mem_getD h)).1
      have h1 := Int.tmod_lt_of_pos (bs.getD i 0) (by omega : (0 : Int) < 12)
      have h2 : 0 ≤ (bs.getD i 0).tmod 12 := Int.tmod_nonneg _ h0
      omega
    · omega
  have hrep : List.replicate m (V.int .i64 0) = (fillL f 0 m 0).map (.int .i64) := by rw [fillL_zero]; simp
  refine wa_sr ⟨_, by simp [hlim8, hbig8, flatRep]; rfl, ?_⟩
  rw [hrep]
  have hpA := (Hp.refl H1).a (.cells ((fillL f 0 m 0).map (.int .i64)) .ex)
  have sA := c6.app (b := .cells ((fillL f 0 m 0).map (.int .i64)) .ex) c5
  generalize hkl : H1.length = kl at *
  refine wa_sr ⟨_, by simp; rfl, ?_⟩
  refine wa_sr ⟨_, by simp; rfl, ?_⟩
  refine wa_cut (fun s => s.τ 7 = .int .i64 m ∧ s.τ 8 = .ptr (n1 + 1) 0 ∧ s.τ 10 = .sl kl 0 m m ∧ s.τ 11 = .int .i64 (psum f m) ∧ Hp H1 s.H [(kl, .cells ((fillL f 0 m m).map (.int .i64)) .ex)]) ?_ ?_
  · refine wa_for (n := m) (fun i (_ : Unit) => [(7, .int .i64 m), (8, .ptr (n1 + 1) 0), (2, py), (10, .sl kl 0 m m), (11, .int .i64 (psum f i))]) (fun i _ H' => Hp H1 H' [(kl, .cells ((fillL f 0 m i).map (.int .i64)) .ex)]) ()
      (by decide) hwd (by simp) (by simp) (by simp [Rg, psum]) hpA (by simp) ?_ ?_
    · rintro i _ τ H2 hi t43 t42 ⟨t7, t8, t2, t10, t11, -⟩ hH
      dsimp only [ev] at *
      have hk := hH.r0
      dsimp only at hk
      have hb := psum_le hf i
      have hfi := hf i
      refine wa_sr ⟨_, by simp [t43]; rfl, ?_⟩
      obtain ⟨H3, wr1', hH2⟩ : ∃ X, wr H2 kl i [.int .i64 3] = some X ∧ Hp H1 X [(kl, .cells (((fillL f 0 m i).set i 3).map (.int .i64)) .ex)] := ⟨_, wrI hk rfl (by rw [fillL_length]; exact hi) 3, hH.w0 _⟩
      refine wa_sr ⟨_, by simp [t10, hi, wr1']; rfl, ?_⟩
      have hk2 := hH2.r0
      dsimp only at hk2
      refine wa_sr ⟨_, by simp [t2, hly]; rfl, ?_⟩
      refine wa_cut (fun s => Hp H1 s.H [(kl, .cells ((fillL f 0 m (i + 1)).map (.int .i64)) .ex)] ∧ Rg s.τ [(7, .int .i64 m), (8, .ptr (n1 + 1) 0), (2, py), (10, .sl kl 0 m m), (11, .int .i64 (psum f i)), (12, .int .i64 i), (43, .int .i64 i), (42, .int .i64 m)]) ?_ ?_
      · by_cases hlt : i < bs.length
        · obtain ⟨k2, o2, cc, hye, hrd⟩ := (hH2.il hq1).at hlt
          have hfe : f i = (bs.getD i 0).tmod 12 := by simp only [f, if_pos hlt]
          rw [hfe] at hfi
          have hset : ((fillL f 0 m i).set i 3).set i (f i) = fillL f 0 m (i + 1) := by rw [List.set_set, fillL_set _ _ _ _ hi]
          have wr2 := wrI hk2 rfl (by simp [fillL_length]; exact hi : i < ((fillL f 0 m i).set i 3).length) ((bs.getD i 0).tmod 12)
          rw [← hfe, hset, hfe] at wr2
          generalize bs.getD i 0 = b at *
          have hwb : IntKind.i64.wrap (b.tmod 12) = b.tmod 12 := w64 (by omega) (by omega)
          refine wa_cond (t := true) (by simp [hlt]) (fun _ => ?_) (fun h => by cases h)
          refine wa_regs ⟨_, by simp [t2, t10, hye, hlt, hrd, hwb, hi, wr2]; rfl, ?_⟩
          exact ⟨hH2.w0 _, by simp [Rg, t7, t8, t2, t10, t11, t43, t42, hye]⟩
        · have hfe : f i = 3 := by simp only [f, if_neg hlt]
          have hset : (fillL f 0 m i).set i 3 = fillL f 0 m (i + 1) := by rw [← hfe, fillL_set _ _ _ _ hi]
          refine wa_cond (t := false) (by simp; omega) (fun h => by cases h) (fun _ => wa_skip ?_)
          exact ⟨by rw [hset] at hH2; exact hH2, by simp [Rg, t7, t8, t2, t10, t11, t43, t42]⟩
      · rintro ⟨τ', H4⟩ ⟨hH4, u7, u8, u2, u10, u11, u12, u43, u42, -⟩
        dsimp only at *
        have hk4 := hH4.r0
        dsimp only at hk4
        have hrd := rdI hk4 (by rw [fillL_length]; exact hi : i < (fillL f 0 m (i + 1)).length)
        rw [fillL_getD _ _ _ _ _ _ hi, if_pos (by omega)] at hrd
        have hws : IntKind.i64.wrap (psum f i + f i) = psum f i + f i := w64 (by omega) (by omega)
        refine wa_regs ⟨_, by simp [u10, u11, u12, hi, hrd, hws]; rfl, ?_⟩
        exact ⟨by simp [u43], by simp [u42], (), by simp [Rg, u7, u8, u2, u10, psum], hH4⟩
    · rintro _ τ H2 ⟨t7, t8, t2, t10, t11, -⟩ hH
      exact ⟨t7, t8, t10, t11, hH⟩
  · rintro ⟨τ, H2⟩ ⟨t7, t8, t10, t11, hH⟩
    dsimp only at *
    -- who is done
    have hrep2 : List.replicate m (V.bool false) = (fillL (fun j => f j == 0) false m 0).map .bool := by rw [fillL_zero]; simp
    refine wa_sr ⟨_, by simp [t7, hlimm, hbig, flatRep]; rfl, ?_⟩
    rw [hrep2]
    have hpB := hH.a (.cells ((fillL (fun j => f j == 0) false m 0).map .bool) .ex)
    generalize hkd : H2.length = kd at *
    refine wa_sr ⟨_, by simp; rfl, ?_⟩
    refine wa_cut (fun s => s.τ 7 = .int .i64 m ∧ s.τ 8 = .ptr (n1 + 1) 0 ∧ s.τ 10 = .sl kl 0 m m ∧ s.τ 11 = .int .i64 (psum f m) ∧ s.τ 13 = .sl kd 0 m m ∧ Hp H1 s.H [(kd, .cells ((fillL (fun j => f j == 0) false m m).map .bool) .ex), (kl, .cells ((fillL f 0 m m).map (.int .i64)) .ex)]) ?_ ?_
    · refine wa_for (n := m) (fun i (_ : Unit) => [(7, .int .i64 m), (8, .ptr (n1 + 1) 0), (10, .sl kl 0 m m), (11, .int .i64 (psum f m)), (13, .sl kd 0 m m)]) (fun i _ H' => Hp H1 H' [(kd, .cells ((fillL (fun j => f j == 0) false m i).map .bool) .ex), (kl, .cells ((fillL f 0 m m).map (.int .i64)) .ex)]) ()
        (by decide) hwd (by simp) (by simp) (by simp [Rg, t7, t8, t10, t11]) hpB (by simp) ?_ ?_
      · rintro i _ τ H3 hi t73 t72 ⟨u7, u8, u10, u11, u13, -⟩ hH3
        dsimp only [ev] at *
        have hk0 := hH3.r0
        have hk1 := hH3.r1
        dsimp only at hk0 hk1
        have hrd := rdI hk1 (by rw [fillL_length]; exact hi)
        rw [fillL_getD _ _ _ _ _ _ hi, if_pos hi] at hrd
        have hwr := wrB hk0 rfl (by rw [fillL_length]; exact hi) (f i == 0)
        rw [fillL_set (fun j => f j == 0) _ _ _ hi] at hwr
        refine wa_sr ⟨_, by simp [t73]; rfl, ?_⟩
        refine wa_regs ⟨_, by simp [u10, u13, hi, hrd, hwr]; rfl, ?_⟩
        exact ⟨by simp [t73], by simp [t72], (), by simp [Rg, u7, u8, u10, u11, u13], hH3.w0 _⟩
      · rintro _ τ H3 ⟨u7, u8, u10, u11, u13, -⟩ hH3
        exact ⟨u7, u8, u10, u11, u13, hH3⟩
    · rintro ⟨τ, H3⟩ ⟨u7, u8, u10, u11, u13, hH3⟩
      dsimp only at *
      have hrep3 : List.replicate m (V.int .i64 0) = (List.replicate m (0 : Int)).map (.int .i64) := by simp
      refine wa_sr ⟨_, by simp [u7, hlim8, hbig8, flatRep]; rfl, ?_⟩
      rw [hrep3]
      have hpC := hH3.a (.cells ((List.replicate m (0 : Int)).map (.int .i64)) .ex)
      have hq0 := c6.q_lt
      have hkt0 := c6.kt_lt
      have sC := c6.frame (hpC.old _ (by omega)) (hpC.old _ (by omega)) (hpC.old pb (by omega)) (by have := hpC.le; omega)
      have hdn : (fillL (fun j => f j == 0) false m m) = dn (fillL f 0 m m) := by rw [fillL_full, fillL_full]; simp [dn]
      rw [hdn] at hpC
      have hps : (fillL f 0 m m).sum = psum f m := by rw [fillL_full, psum_eq]
      have hpl := psum_le hf m
      have hFI : FI m 1 A (fillL f 0 m m) (List.replicate m 0) := by
        refine ⟨f1, fillL_length _ _ _ _, by simp, fun x hx => ?_, fun i hi => by simp [hi], fun _ i hi => by simp [hi], fun i j hi hj _ _ _ => by simp [hi, hj]⟩
        rw [fillL_full] at hx
        obtain ⟨j, _, rfl⟩ := List.mem_map.1 hx
        exact hf j
      generalize hH4 : (H3 ++ [Blk.cells ((List.replicate m (0 : Int)).map (.int .i64)) .ex]) = H4 at *
      generalize fillL f 0 m m = left at *
      generalize psum f m = al at *
      have hkl2 : kl < kd := by have := hH.lt 0 rfl; omega
      have hks1 : kd < H3.length := hH3.lt 0 rfl
      have hkl1 := hH3.ge 1 rfl
      have hkd1 := hH3.ge 0 rfl
      generalize hks : H3.length = ks at *
      refine wa_sr ⟨_, by simp; rfl, ?_⟩
      refine wa_cut (fun s => s.τ 8 = .ptr (n1 + 1) 0 ∧ s.τ 13 = .sl kd 0 m m ∧ ∃ (s' : PS) (left : List Int), Fit s' m ∧ left.length = m ∧ (∀ i, i < m → left.getD i 0 = 0) ∧ SS s.H (n1 + 1) n1 pb s' ∧ s.H[kd]? = some (.cells ((dn left).map .bool) .ex)) ?_ ?_
      · refine wa_while (fun r s => ∃ (k : Nat) (s' : PS) (left since : List Int), 1 ≤ k ∧ r = 1000 - k ∧ FI m k s' left since ∧ left.sum = al - (k - 1) ∧ SS s.H (n1 + 1) n1 pb s' ∧ H1.length ≤ s.H.length ∧
            s.H[kl]? = some (.cells (left.map (.int .i64)) .ex) ∧ s.H[kd]? = some (.cells ((dn left).map .bool) .ex) ∧ s.H[ks]? = some (.cells (since.map (.int .i64)) .ex) ∧
            Rg s.τ [(7, .int .i64 m), (8, .ptr (n1 + 1) 0), (10, .sl kl 0 m m), (11, .int .i64 al), (13, .sl kd 0 m m), (15, .sl ks 0 m m), (16, .int .i64 k)]) 999
          ⟨1, A, left, List.replicate m 0, by omega, rfl, hFI, by rw [hps]; omega, sC, hpC.le, hpC.r2, hpC.r1, hpC.r0, by simp [Rg, u7, u8, u10, u11, u13]⟩ ?_
        clear hpC sC hH4 u7 u8 u10 u11 u13 t7 t8 t10 t11 hps hFI hH hH3 hdn hrep hrep2 hrep3 hpB hpA
        clear left τ
        rintro r ⟨τ, H4⟩ ⟨k, s', left, since, hk1, hr, hF, hsum, hS, hP, kL, kD, kS, v7, v8, v10, v11, v13, v15, v16, -⟩
        dsimp only at *
        refine ⟨_, decide ((k : Int) ≤ al), by simp [v11, v16]; rfl, by simp, fun ht => ?_, fun hfl => ?_⟩
        · have hka : (k : Int) ≤ al := by simpa using ht
          obtain ⟨w, o1, o2, o3, o3', o4, o5, o6⟩ := fair_step hF (by omega)
          have hll := hF.l1
          have hsl := hF.l2
          have hbl : BL H4 (.sl kd 0 m m) (dn left) := by
            have := BL.own (c := m) kD
            simpa [dn, hll] using this
          have hle := hS.left hF.fit
          obtain ⟨H5, d1, d2, d3, d4⟩ := hS.next hF.fit hbl (fun k hk => by simp [V.blk?] at hk; subst hk; omega)
          rw [o1] at d1
          simp only [Option.getD_some, Option.isSome_some] at d1
          have kL5 : H5[kl]? = some (.cells (left.map (.int .i64)) .ex) := by rw [d3 kl (List.getElem?_eq_some_iff.1 kL).1 (by omega) (by omega)]; exact kL
          have kD5 : H5[kd]? = some (.cells ((dn left).map .bool) .ex) := by rw [d3 kd (List.getElem?_eq_some_iff.1 kD).1 (by omega) (by omega)]; exact kD
          have kS5 : H5[ks]? = some (.cells (since.map (.int .i64)) .ex) := by rw [d3 ks (List.getElem?_eq_some_iff.1 kS).1 (by omega) (by omega)]; exact kS
          have rL := rdI kL5 (by omega : w < left.length)
          have rS := rdI kS5 (by omega : w < since.length)
          have hl0 : (left.getD w 0 == 0) = false := beq_eq_false_iff_ne.2 (by omega)
          have hge : ¬ ((m : Int) ≤ w) := by omega
          refine wa_sr ⟨_, by simp [v8, hle]; rfl, ?_⟩
          refine wa_sr ⟨_, by simp [v8, v13, d1]; rfl, ?_⟩
          have hwn : ¬ ((w : Int) < 0) := by omega
          generalize hx : left.getD w 0 = x at *
          generalize hy : since.getD w 0 = y at *
          refine wa_sr ⟨_, by simp [v7, v10, hwn, hge, o2, rL, hl0]; rfl, ?_⟩
          refine wa_if (t := false) (by simp) (fun h => by cases h) (fun _ => ?_)
          obtain ⟨pd, hpd⟩ : ∃ b, b = decide (0 < s'.picks.length) := ⟨_, rfl⟩
          have hpd2 : (s'.picks = []) ↔ pd = false := by rw [hpd]; cases s'.picks <;> simp
          have hpd3 : decide ((0 : Int) < (s'.picks.length : Int)) = pd := by rw [hpd]; simp
          refine wa_rg [(7, .int .i64 m), (8, .ptr (n1 + 1) 0), (10, .sl kl 0 m m), (11, .int .i64 al), (13, .sl kd 0 m m), (15, .sl ks 0 m m), (16, .int .i64 k), (17, .bool pd), (18, .int .i64 w)] (by simp [Rg, v7, v8, v10, v11, v13, v15, v16, hpd]) ?_
          rintro τ1 ⟨w7, w8, w10, w11, w13, w15, w16, w17, w18, -⟩
          dsimp only at w7 w8 w10 w11 w13 w15 w16 w17 w18
          clear v7 v8 v10 v11 v13 v15 v16 τ
          refine wa_cut (fun s => s.H = H5 ∧ Rg s.τ [(127, .bool (!pd && decide (0 < y))), (7, .int .i64 m), (8, .ptr (n1 + 1) 0), (10, .sl kl 0 m m), (11, .int .i64 al), (13, .sl kd 0 m m), (15, .sl ks 0 m m), (16, .int .i64 k), (17, .bool pd), (18, .int .i64 w)]) ?_ ?_
          · cases pd
            · refine wa_regs ⟨_, by simp [w17, w15, w18, o2, rS]; rfl, ?_⟩
              exact ⟨rfl, by simp [Rg, w7, w8, w10, w11, w13, w15, w16, w17, w18]⟩
            · refine wa_regs ⟨_, by simp [w17]; rfl, ?_⟩
              exact ⟨rfl, by simp [Rg, w7, w8, w10, w11, w13, w15, w16, w17, w18]⟩
          clear w7 w8 w10 w11 w13 w15 w16 w17 w18 τ1
          rintro ⟨τ1, H5'⟩ ⟨hHe, w127, w7, w8, w10, w11, w13, w15, w16, w17, w18, -⟩
          dsimp only at hHe w127 w7 w8 w10 w11 w13 w15 w16 w17 w18
          subst H5'
          refine wa_cut (fun s => s.H = H5 ∧ Rg s.τ [(7, .int .i64 m), (8, .ptr (n1 + 1) 0), (10, .sl kl 0 m m), (11, .int .i64 al), (13, .sl kd 0 m m), (15, .sl ks 0 m m), (16, .int .i64 k), (17, .bool pd), (18, .int .i64 w)]) ?_ ?_
          · refine wa_cond (t := !pd && decide (0 < y)) (by simp [w127]) (fun hc => ?_) (fun _ => wa_skip ⟨rfl, by simp [Rg, w7, w8, w10, w11, w13, w15, w16, w17, w18]⟩)
            have hpe : s'.picks = [] := hpd2.2 (by cases pd with | false => rfl | true => cases hc)
            have hfair := o4 hpe
            refine wa_sr ⟨_, by simp [w7]; rfl, ?_⟩
            refine wa_for (n := m) (fun i (_ : Unit) => [(7, .int .i64 m), (8, .ptr (n1 + 1) 0), (10, .sl kl 0 m m), (11, .int .i64 al), (13, .sl kd 0 m m), (15, .sl ks 0 m m), (16, .int .i64 k), (17, .bool pd), (18, .int .i64 w)]) (fun i _ H' => H' = H5) ()
              (by decide) hwd (by simp) (by simp) (by simp [Rg, w7, w8, w10, w11, w13, w15, w16, w17, w18]) rfl (by simp) ?_ ?_
            · rintro i _ τ H' hi t129 t128 ⟨w7, w8, w10, w11, w13, w15, w16, w17, w18, -⟩ rfl
              dsimp only [ev] at *
              refine wa_sr ⟨_, by simp [t129]; rfl, ?_⟩
              have rLi := rdI kL5 (by omega : i < left.length)
              have rSi := rdI kS5 (by omega : i < since.length)
              generalize hxi : left.getD i 0 = xi at *
              generalize hyi : since.getD i 0 = yi at *
              have hne : ((i : Int) != (w : Int)) = !(i == w) := by simp [bne, int_beq]
              refine wa_dr rfl rfl ?_
              by_cases e1 : i = w
              · subst e1
                refine ⟨_, by simp [w18]; rfl, ?_⟩
                refine wa_cond (t := false) (by simp) (fun h => by cases h) (fun _ => wa_skip ?_)
                exact ⟨by simp [t129], by simp [t128], (), by simp [Rg, w7, w8, w10, w11, w13, w15, w16, w17, w18], rfl⟩
              · have e1' : (i == w) = false := by simpa using e1
                by_cases e2 : 0 < xi
                · have hle := hfair i hi e1 (by omega)
                  have hnl : ¬ (yi < y) := by omega
                  refine ⟨_, by simp [w18, w10, w15, hne, e1', hi, rLi, e2, rSi, rS, o2, hnl]; rfl, ?_⟩
                  refine wa_cond (t := false) (by simp) (fun h => by cases h) (fun _ => wa_skip ?_)
                  exact ⟨by simp [t129], by simp [t128], (), by simp [Rg, w7, w8, w10, w11, w13, w15, w16, w17, w18], rfl⟩
                · refine ⟨_, by simp [w18, w10, w15, hne, e1', hi, rLi, e2]; rfl, ?_⟩
                  refine wa_cond (t := false) (by simp) (fun h => by cases h) (fun _ => wa_skip ?_)
                  exact ⟨by simp [t129], by simp [t128], (), by simp [Rg, w7, w8, w10, w11, w13, w15, w16, w17, w18], rfl⟩
            · rintro _ τ H' ⟨w7, w8, w10, w11, w13, w15, w16, w17, w18, -⟩ rfl
              exact ⟨rfl, w7, w8, w10, w11, w13, w15, w16, w17, w18, trivial⟩
          clear w127 w7 w8 w10 w11 w13 w15 w16 w17 w18 τ1
          rintro ⟨τ1, H5'⟩ ⟨hHe, w7, w8, w10, w11, w13, w15, w16, w17, w18, -⟩
          dsimp only at hHe w7 w8 w10 w11 w13 w15 w16 w17 w18
          subst H5'
          refine wa_sr ⟨_, by simp [w17]; rfl, ?_⟩
          obtain ⟨since', hsi⟩ : ∃ l, l = if s'.picks = [] then since.set w (k : Int) else since := ⟨_, rfl⟩
          rw [← hsi] at o5
          refine wa_cut (fun s => s.H[kl]? = some (.cells (left.map (.int .i64)) .ex) ∧ s.H[kd]? = some (.cells ((dn left).map .bool) .ex) ∧ s.H[ks]? = some (.cells (since'.map (.int .i64)) .ex) ∧ SS s.H (n1 + 1) n1 pb (s'.next (dn left)).2 ∧ H5.length = s.H.length ∧
            Rg s.τ [(7, .int .i64 m), (8, .ptr (n1 + 1) 0), (10, .sl kl 0 m m), (11, .int .i64 al), (13, .sl kd 0 m m), (15, .sl ks 0 m m), (16, .int .i64 k), (18, .int .i64 w)]) ?_ ?_
          · cases pd with
            | true =>
              have hpe : ¬ s'.picks = [] := fun e => by have := hpd2.1 e; cases this
              rw [if_neg hpe] at hsi
              subst hsi
              refine wa_cond (t := false) (by simp) (fun h => by cases h) (fun _ => wa_skip ?_)
              exact ⟨kL5, kD5, kS5, d4, rfl, by simp [Rg, w7, w8, w10, w11, w13, w15, w16, w17, w18]⟩
            | false =>
              have hpe : s'.picks = [] := hpd2.2 rfl
              rw [if_pos hpe] at hsi
              have hwr := wrI kS5 rfl (by omega : w < since.length) k
              rw [← hsi] at hwr
              refine wa_cond (t := true) (by simp) (fun _ => ?_) (fun h => by cases h)
              refine wa_regs ⟨_, by simp [w15, w16, w18, o2, hwr]; rfl, ?_⟩
              refine ⟨?_, ?_, ?_, d4.set (by omega) (by omega) (by omega), by simp, by simp [Rg, w7, w8, w10, w11, w13, w15, w16, w17, w18]⟩
              · simp only; rw [List.getElem?_set_ne (by omega)]; exact kL5
              · simp only; rw [List.getElem?_set_ne (by omega)]; exact kD5
              · simp only; rw [List.getElem?_set_self (List.getElem?_eq_some_iff.1 kS5).1]
          clear w7 w8 w10 w11 w13 w15 w16 w17 w18 τ1
          rintro ⟨τ1, H6⟩ ⟨kL6, kD6, kS6, d6, hl6, w7, w8, w10, w11, w13, w15, w16, w18, -⟩
          dsimp only at kL6 kD6 kS6 d6 hl6 w7 w8 w10 w11 w13 w15 w16 w18
          have rL6 := rdI kL6 (by omega : w < left.length)
          rw [hx] at rL6
          have hwx : IntKind.i64.wrap (x - 1) = x - 1 := w64 (by omega) (by omega)
          obtain ⟨H7, hw7, kL7, kD7, kS7, d7, hl7⟩ : ∃ X, wr H6 kl w [.int .i64 (x - 1)] = some X ∧ X[kl]? = some (.cells ((left.set w (x - 1)).map (.int .i64)) .ex) ∧ X[kd]? = some (.cells ((dn left).map .bool) .ex) ∧ X[ks]? = some (.cells (since'.map (.int .i64)) .ex) ∧ SS X (n1 + 1) n1 pb (s'.next (dn left)).2 ∧ H6.length = X.length :=
            ⟨_, wrI kL6 rfl (by omega) _, List.getElem?_set_self (List.getElem?_eq_some_iff.1 kL6).1, by rw [List.getElem?_set_ne (by omega)]; exact kD6, by rw [List.getElem?_set_ne (by omega)]; exact kS6, d6.set (by omega) (by omega) (by omega), by simp⟩
          refine wa_sr ⟨_, by simp [w10, w18, o2, rL6, hwx, hw7]; rfl, ?_⟩
          have rL7 := rdI kL7 (by simp; omega : w < (left.set w (x - 1)).length)
          rw [getD_set _ _ _ _ _ (by omega), if_pos rfl] at rL7
          refine wa_sr ⟨_, by simp [w10, w18, o2, rL7]; rfl, ?_⟩
          have hwk : IntKind.i64.wrap ((k : Int) + 1) = ((k + 1 : Nat) : Int) := by
            rw [w64 (by omega) (by omega)]; rfl
          refine WP.mono (Q := fun e s => e = .normal ∧ s.H[kl]? = some (.cells ((left.set w (x - 1)).map (.int .i64)) .ex) ∧ s.H[kd]? = some (.cells ((dn (left.set w (x - 1))).map .bool) .ex) ∧ s.H[ks]? = some (.cells (since'.map (.int .i64)) .ex) ∧ SS s.H (n1 + 1) n1 pb (s'.next (dn left)).2 ∧ H1.length ≤ s.H.length ∧
            Rg s.τ [(7, .int .i64 m), (8, .ptr (n1 + 1) 0), (10, .sl kl 0 m m), (11, .int .i64 al), (13, .sl kd 0 m m), (15, .sl ks 0 m m), (16, .int .i64 k)]) ?_ ?_
          · have hle1 := hP
            have hdnset : dn (left.set w (x - 1)) = (dn left).set w (x - 1 == 0) := by simp [dn, List.map_set]
            by_cases hz : x - 1 = 0
            · have hz' : (x - 1 == 0) = true := by simpa using hz
              have hwr := wrB kD7 rfl (by simp [dn]; omega : w < (dn left).length) true
              rw [hz'] at hdnset
              rw [← hdnset] at hwr
              refine wa_cond (t := true) (by simp [hz]) (fun _ => ?_) (fun h => by cases h)
              refine wa_regs ⟨_, by simp [w13, w18, o2, hwr]; rfl, ?_⟩
              refine ⟨rfl, ?_, ?_, ?_, d7.set (by omega) (by omega) (by omega), by simp; omega, by simp [Rg, w7, w8, w10, w11, w13, w15, w16, w18]⟩
              · simp only; rw [List.getElem?_set_ne (by omega)]; exact kL7
              · simp only; rw [List.getElem?_set_self (List.getElem?_eq_some_iff.1 kD7).1]
              · simp only; rw [List.getElem?_set_ne (by omega)]; exact kS7
            · have hz' : (x - 1 == 0) = false := by simpa using hz
              have hsame : (dn left).set w false = dn left := by
                refine List.ext_getElem (by simp) fun j h1 h2 => ?_
                rw [List.getElem_set]
                split
                · rename_i e
                  subst e
                  have := dn_getD (left := left) (i := w) (by omega)
                  rw [hx, hl0] at this
                  rw [List.getD_eq_getElem?_getD, List.getElem?_eq_getElem h2] at this
                  simpa using this.symm
                · rfl
              rw [hz', hsame] at hdnset
              refine wa_cond (t := false) (by simp [hz']) (fun h => by cases h) (fun _ => wa_skip ?_)
              exact ⟨rfl, kL7, by rw [hdnset]; exact kD7, kS7, d7, by simp only; omega, by simp [Rg, w7, w8, w10, w11, w13, w15, w16, w18]⟩
          · rintro e ⟨τ2, H8⟩ ⟨rfl, q1, q2, q3, q4, q5, x7, x8, x10, x11, x13, x15, x16, -⟩
            dsimp only at *
            refine ⟨_, by simp [x16, hwk]; rfl, 1000 - (k + 1), by omega, k + 1, _, _, _, by omega, rfl, o5, by rw [o6, hsum]; omega, q4, q5, q1, q2, q3, by simp [Rg, x7, x8, x10, x11, x13, x15]⟩
        · have hka : ¬ (k : Int) ≤ al := by simpa using hfl
          refine ⟨by simp [v8], by simp [v13], s', left, hF.fit, hF.l1, fun i hi => sum_zero left (fun x hx => (hF.lb x hx).1) (by omega) i (by rw [hF.l1]; exact hi), hS, kD⟩
      · rintro ⟨τ, H4⟩ ⟨v8, v13, s', left, hfit, hll, hz, hS, hkD⟩
        dsimp only at *
        have hbl : BL H4 (.sl kd 0 m m) (dn left) := by
          have := BL.own (c := m) hkD
          simpa [dn, hll] using this
        obtain ⟨H5, d1, d2, d3, d4⟩ := hS.next hfit hbl (fun k hk => by simp [V.blk?] at hk; subst hk; omega)
        obtain ⟨o1, o2⟩ := all_next hfit (fun w hw => by rw [dn_getD (by omega), hz w hw]; rfl : ∀ w, w < m → (dn left).getD w false = true)
        rw [o1] at d1
        simp only [Option.getD_none, Option.isSome_none] at d1
        refine wa_sr ⟨_, by simp [v8, v13, d1]; rfl, ?_⟩
        refine wa_sr ⟨_, by simp [call_awake]; rfl, ?_⟩
        refine wa_ret ?_
        exact ⟨by simp, _, by simp; rfl, rfl⟩
end Go.Proofs.Yteogambpkgkmhaa
