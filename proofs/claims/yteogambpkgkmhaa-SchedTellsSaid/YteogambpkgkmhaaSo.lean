/- SchedTells: the walk. -/
import Derived.Test.YteogambpkgkmhaaSn
set_option linter.unusedSimpArgs false
set_option linter.unusedVariables false
namespace Go.Proofs.Yteogambpkgkmhaa
open Go Go.Ar
set_option maxRecDepth 100000

theorem new_bad {H : Heap} {x : V} {n : Int} (hb : n < 1 ∨ 64 < n) : callL E (.f 8) [.int .i64 n, x] H = some (.tup [.nilp, .int .i64 2], H) := by
  have key : ∃ v H', callL E (.f 8) [.int .i64 n, x] H = some (v, H') ∧ v = .tup [.nilp, .int .i64 2] ∧ H' = H := by
    rw [call_E rfl fc8_ok rfl]
    refine wa_finish ?_
    unfold fc8
    dsimp only
    refine wa_seq (wa_regs ⟨_, by simp; rfl, ?_⟩)
    refine wa_seq (wa_seq ?_)
    by_cases h1 : n < 1
    · refine wa_regs ⟨_, by simp [h1]; rfl, ?_⟩
      refine wa_cond (t := true) (by simp) (fun _ => ?_) (fun h => by cases h)
      refine wa_seq (wa_regs ⟨_, by simp; rfl, ?_⟩)
      exact wa_ret ⟨by simp, _, by simp; rfl, rfl, rfl⟩
    · have h2 : 64 < n := by omega
      refine wa_regs ⟨_, by simp [h1, h2]; rfl, ?_⟩
      refine wa_cond (t := true) (by simp) (fun _ => ?_) (fun h => by cases h)
      refine wa_seq (wa_regs ⟨_, by simp; rfl, ?_⟩)
      exact wa_ret ⟨by simp, _, by simp; rfl, rfl, rfl⟩
  obtain ⟨v, H', h1, rfl, rfl⟩ := key
  exact h1

theorem SS.pleft {H : Heap} {q kt pb n : Nat} {s : PS} (h : SS H q kt pb s) (hf : Fit s n) : pcall (callL E) [] (.f 9) [.ptr q 0] H = some (.int .i64 s.picks.length, H) := by
  obtain ⟨p, h1, _⟩ := h
  exact pcall_same (left_ok (told := s.told) (rd_prot (by simp) h1.r0) (rd_prot (by simp) h1.r2) (h1.bl.prot fun k _ => by simp) (h1.hp.prot fun k _ => by simp) h1.pos)
theorem SS.prounds {H : Heap} {q kt pb n : Nat} {s : PS} (h : SS H q kt pb s) (hf : Fit s n) : pcall (callL E) [] (.f 14) [.ptr q 0] H = some (.int .i64 s.ended, H) := by
  obtain ⟨p, h1, _⟩ := h
  exact pcall_same (rounds_ok (told := s.told) (rd_prot (by simp) h1.r2) (rd_prot (by simp) h1.r3) (h1.bl.prot fun k _ => by simp) h1.pos)

def cR (n : Nat) (p : V) (lr : Int) (t : V) (e : Int) : List V := [.int .i64 n, p, .int .i64 lr, t, .int .i64 e]
/-- The document's script, as it lies in block k9; its rows lie elsewhere. -/
structure DR (H : Heap) (k9 n : Nat) (s : PS) (p : V) (lr : Int) (t : V) : Prop where
  last : LR lr s n
  il : IL .i64 H p s.picks
  sg : s.picks ≠ [] → SlG H 1 p
  bl : BL H t s.told
  box : H[k9]? = some (.cells (cR n p lr t s.ended) .ex)
theorem DR.frame {H H' : Heap} {k9 n : Nat} {s : PS} {p t : V} {lr : Int} (h : DR H k9 n s p lr t) (h9 : H'[k9]? = H[k9]?) (hp : ∀ k, p.blk? = some k → H'[k]? = H[k]?) (ht : ∀ k, t.blk? = some k → H'[k]? = H[k]?) : DR H' k9 n s p lr t :=
  ⟨h.last, h.il.frame hp, fun hn => (h.sg hn).frame hp, h.bl.frame ht, h9.trans h.box⟩

theorem shr_some (z c : Int) (h : 0 ≤ c) : ∃ y, binop .shr (.int .u64 z) (.int .i64 c) = some (.int .u64 y) := by
  refine ⟨z.fdiv (2 ^ (min c.toNat IntKind.u64.bits)), ?_⟩
  simp only [binop]
  rw [if_pos h]
theorem and_some (z c : Int) : ∃ y, binop .and (.int .u64 z) (.int .u64 c) = some (.int .u64 y) := by
  refine ⟨IntKind.u64.wrap ((BitVec.ofInt IntKind.u64.bits z &&& BitVec.ofInt IntKind.u64.bits c).toNat), ?_⟩
  simp only [binop]
  rw [if_pos trivial]

structure YT where
  s : PS
  p : V
  lr : Int
  t : V

set_option maxHeartbeats 4000000 in
theorem tells_law {H : Heap} {px dx : V} {zs ds : List Int} (hx : Sl px) (hp : IL .i64 H px zs) (hg : SlG H 1 px) (hd : IL .u64 H dx ds) (hdg : SlG H 1 dx) (hds : ∀ z, z ∈ ds → 0 ≤ z ∧ z < 18446744073709551616) {w : Int} :
    ∃ v H', callL E (.f 5) [.int .i64 w, px, dx] H = some (v, H') ∧ v = .bool true := by
  refine call_G rfl fc5_ok gc5_ok rfl ?_
  unfold gc5 fc5
  dsimp only
  have hl := hp.len
  obtain ⟨x', hs1, hs2, hs3, hs4⟩ := hp.upto hg (min zs.length 200) (by omega)
  have hx' := slcv_sl hx hs1
  have hmn : (if (200 : Int) < zs.length then (200 : Int) else zs.length) = ((min zs.length 200 : Nat) : Int) := mn_len _ 200
  refine wa_sr ⟨_, by simp; rfl, ?_⟩
  refine wa_sr ⟨_, by simp [hl, hmn, hs1]; rfl, ?_⟩
  by_cases hbad : w < 1 ∨ 64 < w
  · have hnb := new_bad (H := H) (x := x') hbad
    refine wa_sr ⟨_, by simp [hnb]; rfl, ?_⟩
    refine wa_cut (fun s => s.H = H ∧ Rg s.τ [(34, .bool true), (7, .nilp), (8, .int .i64 2)]) ?_ ?_
    · by_cases h1 : w < 1
      · exact wa_regs ⟨_, by simp [h1]; rfl, rfl, by simp [Rg]⟩
      · have h2 : 64 < w := by omega
        exact wa_regs ⟨_, by simp [h1, h2]; rfl, rfl, by simp [Rg]⟩
    · rintro ⟨τ, H1⟩ ⟨hH1, t34, t7, t8, -⟩
      dsimp only at hH1 t34 t7 t8
      refine wa_if (t := true) (by simp [t34]) (fun _ => ?_) (fun h => by cases h)
      refine wa_sr ⟨_, by simp [t7, t8, call_awake]; rfl, ?_⟩
      refine wa_rt ?_
      exact ⟨by simp, _, by simp; rfl, rfl⟩
  obtain ⟨n, rfl⟩ : ∃ n : Nat, w = n := ⟨w.toNat, by omega⟩
  have hn1 : 1 ≤ n := by omega
  have hn64 : n ≤ 64 := by omega
  obtain ⟨ps, hps⟩ : ∃ ps, ps = zs.take (min zs.length 200) := ⟨_, rfl⟩
  rw [← hps] at hs2
  have hpl : ps.length ≤ 200 := by rw [hps]; simp; omega
  obtain ⟨pb, H1, c1, c2, c3, c4, c5, c6⟩ := ss_new hx' hs2 (by omega) hn1 hn64
  have hnl1 : ¬ ((n : Int) < 1) := by omega
  have hnl2 : ¬ (64 < (n : Int)) := by omega
  have i1 : IL .i64 H1 x' ps := hs2.frame fun k hk => c3 k (Rw.lt hs2 k hk)
  have hdl := hd.len
  obtain ⟨d', hd1, hd2, hd3, hd4⟩ := hd.upto hdg (min ds.length 300) (by omega)
  have hmn2 : (if (300 : Int) < ds.length then (300 : Int) else ds.length) = ((min ds.length 300 : Nat) : Int) := mn_len _ 300
  obtain ⟨es, hes⟩ : ∃ es, es = ds.take (min ds.length 300) := ⟨_, rfl⟩
  rw [← hes] at hd2
  have hel : es.length ≤ 300 := by rw [hes]; simp; omega
  have hesb : ∀ z, z ∈ es → 0 ≤ z ∧ z < 18446744073709551616 := fun z hz => hds z (by rw [hes] at hz; exact List.mem_of_mem_take hz)
  have hdlen := hd2.len
  have hb0 : ∀ k, k < H.length → H1[k]? = H[k]? := c3
  generalize hn0 : H.length = n0 at *
  refine wa_sr ⟨_, by simp [c1]; rfl, ?_⟩
  refine wa_sr ⟨_, by simp [hnl1, hnl2]; rfl, ?_⟩
  refine wa_if (t := false) (by simp) (fun h => by cases h) (fun _ => ?_)
  refine wa_sr ⟨_, by simp; rfl, ?_⟩
  refine wa_if (t := false) (by simp) (fun h => by cases h) (fun _ => ?_)
  -- the document's own script
  obtain ⟨x4, H4, a1, a2⟩ := appnew_ok (sz := 1) (by' := 8) i1.len i1.cells (Rw.lt i1) (by simp [V.scalar]) (by simp) (by omega) (by unfold lim; omega)
  have hX : Hp H1 H4 [] ∧ IL .i64 H4 x4 ps ∧ (ps ≠ [] → SlG H4 1 x4) ∧ ∀ k, x4.blk? = some k → H1.length ≤ k := by
    have hA := (Hp.refl H1).a (.cells [] .ex)
    rcases a2 with ⟨h0, rfl, rfl⟩ | ⟨h0, rfl, rfl⟩
    · have : ps = [] := List.eq_nil_of_length_eq_zero h0
      subst this
      refine ⟨hA.tl, IL.own (zs := []) (m := .ex) (by simp), fun h => absurd rfl h, fun k hk => ?_⟩
      simp [V.blk?] at hk; subst hk; exact Nat.le_refl _
    · have hB := hA.tl.a (.cells (ps.map (.int .i64)) (.gr 1))
      have hl4 : (H1 ++ [Blk.cells [] .ex]).length = H1.length + 1 := by simp
      rw [hl4] at hB
      have hB0 := hB.r0
      dsimp only at hB0
      refine ⟨hB.tl, IL.own hB0, fun _ => ⟨Nat.le_refl _, _, _, hB0, .inr (.inl rfl)⟩, fun k hk => ?_⟩
      simp [V.blk?] at hk; subst hk; omega
  obtain ⟨hX1, hX2, hX3, hX4⟩ := hX
  have hrn := rnew_ok (H := H4) (x := x4) hn64 (Rw.one hX2) (len_scalar hX2.len)
  have hC := hX1.a (.cells [.int .i64 n, x4, .int .i64 (-1), .sl (H4.length + 1) 0 n n, .int .i64 0] .ex)
  have hl5 : (H4 ++ [Blk.cells [.int .i64 n, x4, .int .i64 (-1), .sl (H4.length + 1) 0 n n, .int .i64 0] .ex]).length = H4.length + 1 := by simp
  have hC2 := hC.tl.a (.cells (List.replicate n (.bool false)) .ex)
  rw [hl5] at hC2
  have hCx : Hp H4 (H4 ++ [Blk.cells [.int .i64 n, x4, .int .i64 (-1), .sl (H4.length + 1) 0 n n, .int .i64 0] .ex] ++ [.cells (List.replicate n (.bool false)) .ex]) [] := (((Hp.refl H4).a _).tl.a _).tl
  obtain ⟨H5, hH5⟩ : ∃ X, X = H4 ++ [Blk.cells [.int .i64 n, x4, .int .i64 (-1), .sl (H4.length + 1) 0 n n, .int .i64 0] .ex] ++ [.cells (List.replicate n (.bool false)) .ex] := ⟨_, rfl⟩
  rw [← hH5] at hrn hC2 hCx
  have hD := hC2.a (.cells [.int .i64 0, .nils, .int .i64 0, .nils, .int .i64 0] .ex)
  have hDx := (hCx.a (.cells [.int .i64 0, .nils, .int .i64 0, .nils, .int .i64 0] .ex))
  have hd0 := hD.r0
  dsimp only at hd0
  obtain ⟨H6, w6, hE, hEx⟩ : ∃ X, wr (H5 ++ [Blk.cells [.int .i64 0, .nils, .int .i64 0, .nils, .int .i64 0] .ex]) H5.length 0 [.int .i64 n, x4, .int .i64 (-1), .sl (H4.length + 1) 0 n n, .int .i64 0] = some X ∧
      Hp H1 X [(H5.length, .cells (cR n x4 (-1) (.sl (H4.length + 1) 0 n n) 0) .ex), (H4.length + 1, .cells (List.replicate n (.bool false)) .ex)] ∧ Hp H4 X [(H5.length, .cells (cR n x4 (-1) (.sl (H4.length + 1) 0 n n) 0) .ex)] :=
    ⟨_, wrAll (vs := [.int .i64 n, x4, .int .i64 (-1), .sl (H4.length + 1) 0 n n, .int .i64 0]) hd0 rfl rfl (by simp only [List.all_cons, List.all_nil, len_scalar hX2.len]; rfl), hD.w0 _, hDx.w0 _⟩
  refine wa_sr ⟨_, by simp [fillc, a1, hrn, w6]; rfl, ?_⟩
  refine wa_sr ⟨_, by
    have hsl : slcv H6 1 dx none (some (.int .i64 ((min ds.length 300 : Nat) : Int))) = some d' := by
      rw [← hd1]
      cases dx with
      | sl k o l c =>
        have hk := Rw.lt hd k rfl
        have : H6[k]? = H[k]? := by rw [hE.old k (by omega), c3 k (by omega)]
        simp only [slcv, this]
      | _ => rfl
    simp [hdl, hmn2, hsl, hdlen]
    rfl, ?_⟩
  have hs0 := fit_new ps hn1 hn64
  have hq0 := c6.q_lt
  have hkt0 := c6.kt_lt
  have hE1 := hE.r1
  have hE0 := hE.r0
  dsimp only at hE1 hE0
  have s6 : SS H6 (n0 + 1) n0 pb (new0 n ps) := c6.frame (hE.old _ (by omega)) (hE.old _ (by omega)) (hE.old pb (by omega)) hE.le
  have hk9 := hE.ge 0 rfl
  have hkb := hE.ge 1 rfl
  have hlE := hEx.ge 0 rfl
  have dr6 : DR H6 H5.length n (new0 n ps) x4 (-1) (.sl (H4.length + 1) 0 n n) := ⟨.inr ⟨rfl, rfl⟩, hEx.il hX2, fun hn => hEx.slG (hX3 hn), by
    have h1 : H6[H4.length + 1]? = some (.cells ((List.replicate n false).map .bool) .ex) := by rw [hE1]; simp
    have := BL.own (c := n) h1
    simpa [new0] using this, hE0⟩
  have fp6 : ∀ k, x4.blk? = some k → k ≠ n0 + 1 ∧ k ≠ n0 ∧ k ≠ H5.length := fun k hk => by
    have h1 := hX4 k hk
    have h2 := Rw.lt hX2 k hk
    omega
  have ft6 : ∀ k, (V.sl (H4.length + 1) 0 n n).blk? = some k → k ≠ n0 + 1 ∧ k ≠ n0 ∧ k ≠ H5.length := fun k hk => by
    simp [V.blk?] at hk; subst hk
    have : H5.length = H4.length + 2 := by rw [hH5]; simp
    omega
  have hold6 : ∀ k, k < n0 → H6[k]? = H[k]? := fun k hk => by rw [hE.old k (by omega), c3 k hk]
  have hpb9 : pb < H5.length := by omega
  have hl6 : H5.length < H6.length := hE.lt 0 rfl
  generalize new0 n ps = A at *
  generalize hk9e : H5.length = k9 at *
  generalize (V.sl (H4.length + 1) 0 n n) = t0 at *
  clear hE1 hE0 hEx hE hD hDx hC2 hCx hC hX1 hX2 hX3 hX4 a1 a2 hrn hH5 hd0 w6 i1 c6 hl5 hkb hlE
  refine wa_cut (fun _ => True) ?_ ?_
  · refine wa_for (n := es.length) (fun i (y : YT) => [(55, d'), (7, .ptr (n0 + 1) 0), (9, .ptr k9 0)])
      (fun i y H' => Fit y.s n ∧ SS H' (n0 + 1) n0 pb y.s ∧ DR H' k9 n y.s y.p y.lr y.t ∧ (∀ k, y.p.blk? = some k → k ≠ n0 + 1 ∧ k ≠ n0 ∧ k ≠ k9) ∧ (∀ k, y.t.blk? = some k → k ≠ n0 + 1 ∧ k ≠ n0 ∧ k ≠ k9) ∧ (∀ k, k < n0 → H'[k]? = H[k]?) ∧ k9 < H'.length) ⟨A, x4, -1, t0⟩
      (by decide) (fun i hi => w64 (by omega) (by omega)) (by simp) (by simp) (by simp [Rg]) ⟨hs0, s6, dr6, fp6, ft6, hold6, hl6⟩ (by simp) ?_ ?_
    · rintro i ⟨s, p, lr, t⟩ τ H7 hi t57 t56 ⟨t55, t7, t9, -⟩ ⟨hf, hS, hD, hfp, hft, hold, hl7⟩
      dsimp only [ev] at *
      have he7 : IL .u64 H7 d' es := hd2.frame fun k hk => hold k (by have := Rw.lt hd2 k hk; omega)
      obtain ⟨ke, oe, ce, hde, hre⟩ := he7.at hi
      have hze := hesb _ (mem_getD hi)
      generalize es.getD i 0 = z at hre hze
      have m1 := Int.tmod_lt_of_pos z (by omega : (0 : Int) < 70)
      have m0 : 0 ≤ z.tmod 70 := Int.tmod_nonneg _ hze.1
      obtain ⟨L, hL⟩ := Int.eq_ofNat_of_zero_le m0
      have hL70 : L < 70 := by omega
      have hlimm : (0 : Int) ≤ L ∧ (L : Int) ≤ (lim : Nat) ∧ (L : Int) * (1 : Nat) ≤ 2 ^ 40 := by unfold lim; omega
      have hbig : (L : Int) ≤ 1099511627776 := by omega
      refine wa_sr ⟨_, by simp [t55, t57, hde, hi, hre]; rfl, ?_⟩
      refine wa_sr ⟨_, by simp [hL, hlimm, hbig, flatRep]; rfl, ?_⟩
      have hA := (Hp.refl H7).a (.cells (List.replicate L (.bool false)) .ex)
      generalize hH8 : H7 ++ [Blk.cells (List.replicate L (V.bool false)) .ex] = H8 at *
      generalize hk12 : H7.length = k12 at *
      refine wa_sr ⟨_, by simp; rfl, ?_⟩
      refine wa_cut (fun σ => Rg σ.τ [(55, d'), (7, .ptr (n0 + 1) 0), (9, .ptr k9 0), (12, .sl k12 0 L L), (57, .int .i64 i), (56, .int .i64 es.length)] ∧ ∃ bs : List Bool, bs.length = L ∧ Hp H7 σ.H [(k12, .cells (bs.map .bool) .ex)]) ?_ ?_
      · refine wa_for (n := L) (fun j (_ : List Bool) => [(55, d'), (7, .ptr (n0 + 1) 0), (9, .ptr k9 0), (12, .sl k12 0 L L), (11, .int .u64 z), (57, .int .i64 i), (56, .int .i64 es.length)]) (fun j bs H' => bs.length = L ∧ Hp H7 H' [(k12, .cells (bs.map .bool) .ex)]) (List.replicate L false)
          (by decide) (fun j hj => w64 (by omega) (by omega)) (by simp) (by simp) (by simp [Rg, t55, t7, t9, t57, t56, hde]) ⟨by simp, by simpa using hA⟩ (by simp) ?_ ?_
        · rintro j bs τ H9 hj t66 t65 ⟨u55, u7, u9, u12, u11, u57, u56, -⟩ ⟨hbl, hH9⟩
          dsimp only [ev] at *
          have hk0 := hH9.r0
          dsimp only at hk0
          have hm0 : 0 ≤ (j : Int).tmod 64 := Int.tmod_nonneg _ (by omega)
          have hwr : ∀ b : Bool, wr H9 k12 j [.bool b] = some (H9.set k12 (.cells ((bs.set j b).map .bool) .ex)) := fun b => wrB hk0 rfl (by omega) b
          refine wa_sr ⟨_, by simp [t66]; rfl, ?_⟩
          have g1 : binop .rem (.int .i64 (j : Int)) (.int .i64 64) = some (.int .i64 ((j : Int).tmod 64)) := rfl
          obtain ⟨y1, g2⟩ : ∃ y, binop .shr (.int .u64 z) (.int .i64 ((j : Int).tmod 64)) = some (.int .u64 y) := shr_some _ _ hm0
          obtain ⟨y2, g3⟩ : ∃ y, binop .and (.int .u64 y1) (.int .u64 1) = some (.int .u64 y) := and_some _ _
          have g4 : binop .eql (.int .u64 y2) (.int .u64 1) = some (.bool (y2 == 1)) := rfl
          clear hm0
          generalize (j : Int).tmod 64 = c at *
          generalize (y2 == 1) = b at *
          refine wa_regs ⟨_, by simp [-binop, u12, u11, hj, g1, g2, g3, g4, hwr, -List.map_set]; rfl, ?_⟩
          exact ⟨by simp [t66], by simp [t65], bs.set j b, by simp [Rg, u55, u7, u9, u12, u11, u57, u56], by simpa using hbl, hH9.w0 _⟩
        · rintro bs τ H9 ⟨u55, u7, u9, u12, u11, u57, u56, -⟩ ⟨hbl, hH9⟩
          exact ⟨by simp [Rg, u55, u7, u9, u12, u57, u56], bs, hbl, hH9⟩
      · clear t55 t7 t9 t57 t56
        rintro ⟨τ, H9⟩ ⟨⟨u55, u7, u9, u12, u57, u56, -⟩, bs, hbl, hH9⟩
        dsimp only at u55 u7 u9 u12 u57 u56 hH9
        clear hA hH8
        have hS9 : SS H9 (n0 + 1) n0 pb s := hS.frame (hH9.old _ hS.q_lt) (hH9.old _ hS.kt_lt) (hH9.old pb (by omega)) hH9.le
        have hD9 : DR H9 k9 n s p lr t := hD.frame (hH9.old _ (by omega)) (fun k hk => hH9.old k (Rw.lt hD.il k hk)) (fun k hk => hH9.old k (Rw.lt hD.bl k hk))
        have hk0 := hH9.r0
        dsimp only at hk0
        have hb9 : BL H9 (.sl k12 0 L L) bs := by
          have := BL.own (c := L) hk0
          rw [hbl] at this
          exact this
        have hl9 : k12 < H9.length := hH9.lt 0 rfl
        have hrd9 : rdn H9 k9 0 5 = some (cR n p lr t s.ended) := by simp [rdn, hD9.box, cR]
        obtain ⟨v, Ha, e1, e2, e3, p', t', lr', rfl, e4, e5, e6, e7, e8, e9⟩ := rnext_ok hf hD9.last hD9.il hD9.sg hD9.bl hb9
        have hHa : Hp H9 Ha [] := ⟨e2, e3, fun q hq => by simp at hq, List.nodup_nil⟩
        have hB := hHa.a (.cells [.int .i64 0, .nils, .int .i64 0, .nils, .int .i64 0] .ex)
        have hB0 := hB.r0
        dsimp only at hB0
        generalize hwho : (match (s.next bs).1 with | some w => (w : Int) | none => -1) = who at *
        obtain ⟨Hb, wb, hC⟩ : ∃ X, wr (Ha ++ [Blk.cells [.int .i64 0, .nils, .int .i64 0, .nils, .int .i64 0] .ex]) Ha.length 0 [.int .i64 n, p', .int .i64 lr', t', .int .i64 (s.next bs).2.ended] = some X ∧ Hp Ha X [(Ha.length, .cells (cR n p' lr' t' (s.next bs).2.ended) .ex)] :=
          ⟨_, wrAll (vs := [.int .i64 n, p', .int .i64 lr', t', .int .i64 (s.next bs).2.ended]) hB0 rfl rfl (by simp only [List.all_cons, List.all_nil, len_scalar e5.len, len_scalar e7.len]; rfl), ((Hp.refl Ha).a _).w0 _⟩
        have hrd9' : rdn H9 k9 0 5 = some [.int .i64 n, p, .int .i64 lr, t, .int .i64 s.ended] := hrd9
        refine wa_sr ⟨_, by simp [u9, u12, hrd9', e1, wb]; rfl, ?_⟩
        have hC0 := hC.r0
        dsimp only at hC0
        have hrdb : rdn Hb Ha.length 0 5 = some [.int .i64 n, p', .int .i64 lr', t', .int .i64 (s.next bs).2.ended] := by simp [rdn, hC0, cR]
        have hb9k : Hb[k9]? = some (.cells (cR n p lr t s.ended) .ex) := by rw [hC.old k9 (by omega), e3 k9 (by omega)]; exact hD9.box
        obtain ⟨Hc, wc, hc9, hco, hcl⟩ : ∃ X, wr Hb k9 0 [.int .i64 n, p', .int .i64 lr', t', .int .i64 (s.next bs).2.ended] = some X ∧ X[k9]? = some (.cells (cR n p' lr' t' (s.next bs).2.ended) .ex) ∧ (∀ k, k ≠ k9 → X[k]? = Hb[k]?) ∧ X.length = Hb.length :=
          ⟨_, wrAll (vs := [.int .i64 n, p', .int .i64 lr', t', .int .i64 (s.next bs).2.ended]) hb9k rfl rfl (by simp only [List.all_cons, List.all_nil, len_scalar e5.len, len_scalar e7.len]; rfl), List.getElem?_set_self (List.getElem?_eq_some_iff.1 hb9k).1, fun k hk => List.getElem?_set_ne (by omega), by simp⟩
        refine wa_sr ⟨_, by simp [u9, hrdb, wc]; rfl, ?_⟩
        have hcE : ∀ k, k < H9.length → k ≠ k9 → Hc[k]? = H9[k]? := fun k hk hne => by rw [hco k hne, hC.old k (by omega), e3 k hk]
        have hlc : H9.length ≤ Hc.length := by have := hC.le; omega
        have hSc : SS Hc (n0 + 1) n0 pb s := hS9.frame (hcE _ hS9.q_lt (by omega)) (hcE _ hS9.kt_lt (by omega)) (hcE pb (by omega) (by omega)) hlc
        have hbc : BL Hc (.sl k12 0 L L) bs := hb9.frame fun k hk => by
          simp [V.blk?] at hk; subst hk
          exact hcE k12 hl9 (by omega)
        have fp' : ∀ k, p'.blk? = some k → k ≠ n0 + 1 ∧ k ≠ n0 ∧ k ≠ k9 := fun k hk => hfp k (e8 k hk)
        have ft' : ∀ k, t'.blk? = some k → k ≠ n0 + 1 ∧ k ≠ n0 ∧ k ≠ k9 := fun k hk => by
          rcases e9 k hk with h | h
          · exact hft k h
          · omega
        have hDc : DR Hc k9 n (s.next bs).2 p' lr' t' := ⟨e4, e5.frame fun k hk => by rw [hco k (fp' k hk).2.2, hC.old k (Rw.lt e5 k hk)], fun hn => (e6 hn).frame fun k hk => by rw [hco k (fp' k hk).2.2, hC.old k (Rw.lt e5 k hk)], e7.frame fun k hk => by rw [hco k (ft' k hk).2.2, hC.old k (Rw.lt e7 k hk)], hc9⟩
        obtain ⟨Hd, f1, f2, f3, f4⟩ := hSc.next hf hbc (fun k hk => by simp [V.blk?] at hk; subst hk; omega)
        have hfn := hf.next bs
        have hDd : DR Hd k9 n (s.next bs).2 p' lr' t' := hDc.frame (f3 k9 (by omega) (by omega) (by omega)) (fun k hk => f3 k (Rw.lt hDc.il k hk) (fp' k hk).1 (fp' k hk).2.1) (fun k hk => f3 k (Rw.lt hDc.bl k hk) (ft' k hk).1 (ft' k hk).2.1)
        refine wa_sr ⟨_, by simp [u7, u12, f1]; rfl, ?_⟩
        have hpl' := f4.pleft hfn
        have hpr' := f4.prounds hfn
        have r1 : rd Hd k9 1 = some p' := by simp [rd, hDd.box, cR]
        have r4 : rd Hd k9 4 = some (.int .i64 (s.next bs).2.ended) := by simp [rd, hDd.box, cR]
        have hpl2 := hDd.il.len
        have hdl9 : k9 < Hd.length := by omega
        have holdd : ∀ k, k < n0 → Hd[k]? = H[k]? := fun k hk => by
          rw [f3 k (by omega) (by omega) (by omega), hcE k (by omega) (by omega), hH9.old k (by omega)]
          exact hold k hk
        have last : ∀ τ' : Nat → V, Rg τ' [(126, .bool false), (55, d'), (7, .ptr (n0 + 1) 0), (9, .ptr k9 0), (57, .int .i64 i), (56, .int .i64 es.length)] → WP E (.cond (.t 126) (.seq (.reg [⟨some 6, .mv (.c (.bool false)), none⟩]) .ret) .skip) ⟨τ', Hd⟩ (InBlk 1 (After (InBlk 0 (After (fun e s' => (∀ (i : Nat), e ≠ Ex.exit i) ∧ ∃ vs, resL s'.τ s'.H [RV.t 6] = some vs ∧ pack vs = V.bool true) fun _ => True)) fun s_1 => s_1.τ 57 = V.int .i64 ↑i ∧ s_1.τ 56 = V.int .i64 ↑es.length ∧
            ∃ y' : YT, Rg s_1.τ [(55, d'), (7, .ptr (n0 + 1) 0), (9, .ptr k9 0)] ∧ Fit y'.s n ∧ SS s_1.H (n0 + 1) n0 pb y'.s ∧ DR s_1.H k9 n y'.s y'.p y'.lr y'.t ∧ (∀ k, y'.p.blk? = some k → k ≠ n0 + 1 ∧ k ≠ n0 ∧ k ≠ k9) ∧ (∀ k, y'.t.blk? = some k → k ≠ n0 + 1 ∧ k ≠ n0 ∧ k ≠ k9) ∧ (∀ k, k < n0 → s_1.H[k]? = H[k]?) ∧ k9 < s_1.H.length)) := by
          rintro τ' ⟨x126, x55, x7, x9, x57, x56, -⟩
          refine wa_cond (t := false) (by simp [x126]) (fun h => by cases h) (fun _ => wa_skip ?_)
          exact ⟨x57, x56, ⟨(s.next bs).2, p', lr', t'⟩, by simp [Rg, x55, x7, x9], hfn, f4, hDd, fp', ft', holdd, hdl9⟩
        cases hnx : (s.next bs).1 with
        | none =>
          rw [hnx] at hwho
          dsimp only at hwho
          subst hwho
          refine wa_seq (wa_dreg (s' := _) (by simp -implicitDefEqProofs [dinsL, dins, hnx, u7, u9, hpl', hpr', r1, r4, hpl2]; rfl) (by simp [Chk.ok, V.blk?, hdl9]) (last _ (by simp [Rg, u55, u7, u9, u57, u56])))
        | some w =>
          rw [hnx] at hwho
          dsimp only at hwho
          subst hwho
          have hw0 : ¬ ((w : Int) < 0) := by omega
          refine wa_seq (wa_dreg (s' := _) (by simp -implicitDefEqProofs [dinsL, dins, hnx, u7, u9, hpl', hpr', r1, r4, hpl2]; rfl) (by simp [Chk.ok, V.blk?, hdl9]) (last _ (by simp [Rg, u55, u7, u9, u57, u56])))
    · intros; trivial
  · rintro ⟨τ, H7⟩ -
    refine wa_sr ⟨_, by simp [call_awake]; rfl, ?_⟩
    refine wa_ret ?_
    exact ⟨by simp, _, by simp; rfl, rfl⟩
end Go.Proofs.Yteogambpkgkmhaa
