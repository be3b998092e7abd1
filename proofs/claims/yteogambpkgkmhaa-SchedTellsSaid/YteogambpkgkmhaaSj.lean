/- SchedAgain: the plain law, and the walk. -/
import Derived.Test.YteogambpkgkmhaaSi
set_option linter.unusedSimpArgs false
set_option linter.unusedVariables false
namespace Go.Proofs.Yteogambpkgkmhaa
open Go Go.Ar
set_option maxRecDepth 100000

/-- Picks that mean the same workers. -/
structure Eqv (n : Nat) (a b : PS) : Prop where
  last : a.last = b.last
  told : a.told = b.told
  ended : a.ended = b.ended
  len : a.picks.length = b.picks.length
  cg : ∀ j : Nat, (a.picks.getD j 0) % (n : Int) = (b.picks.getD j 0) % (n : Int)

theorem begin_mod {x : Int} {n : Nat} (hn : 0 < n) : (x.tmod n + n).tmod n = x % (n : Int) := by
  have h1 := Int.tmod_lt_of_pos x (by omega : (0 : Int) < n)
  have h2 : -(n : Int) < x.tmod n := Int.lt_tmod_of_pos x (by omega)
  rw [Int.tmod_eq_emod_of_nonneg (by omega), Int.add_emod_right]
  rw [Int.tmod_eq_emod]
  split
  · simp
  · have : ((n : Int).natAbs : Int) = n := by omega
    rw [this, Int.sub_emod, Int.emod_self, Int.sub_zero, Int.emod_emod_of_dvd _ (Int.dvd_refl _), Int.emod_emod_of_dvd _ (Int.dvd_refl _)]

theorem Eqv.begin {n : Nat} {a b : PS} (h : Eqv n a b) (hn : 0 < n) (h64 : n ≤ 64) : beginOf a.picks a.last n = beginOf b.picks b.last n := by
  have hc := h.cg 0
  have hl := h.len
  cases ha : a.picks with
  | nil =>
    rw [ha] at hl
    have hb : b.picks = [] := List.eq_nil_of_length_eq_zero hl.symm
    rw [hb, h.last]
  | cons x xs =>
    rw [ha] at hl hc
    cases hb : b.picks with
    | nil => rw [hb] at hl; simp at hl
    | cons y ys =>
      rw [hb] at hc
      rw [begin_cons hn h64, begin_cons hn h64, begin_mod hn, begin_mod hn]
      simpa using hc

theorem getD_tail (l : List Int) (j : Nat) : l.tail.getD j 0 = l.getD (j + 1) 0 := by cases l <;> simp
theorem Eqv.next {n : Nat} {a b : PS} (h : Eqv n a b) (hf : Fit a n) (hg : Fit b n) (done : List Bool) : (a.next done).1 = (b.next done).1 ∧ Eqv n (a.next done).2 (b.next done).2 := by
  have hb := h.begin hf.pos hf.le
  unfold PS.next
  rw [hf.told, hg.told, hb]
  split
  · rename_i w hw
    refine ⟨rfl, rfl, by simp only [h.told], by simp only [h.told, h.ended], by simp [h.len], fun j => ?_⟩
    simp only [getD_tail]
    exact h.cg (j + 1)
  · exact ⟨rfl, h⟩

theorem picks_next {n : Nat} {a : PS} (hf : Fit a n) : (a.next []).2.picks = a.picks.tail ∧ ∃ w, (a.next []).1 = some w := by
  rcases hf.who [] with ⟨w, h1, h2, h3, h4⟩ | ⟨_, _, h⟩
  · rw [h4]; exact ⟨rfl, w, h1⟩
  · have := h 0 hf.pos; simp at this
theorem all_next {n : Nat} {a : PS} (hf : Fit a n) {done : List Bool} (hd : ∀ w, w < n → done.getD w false = true) : (a.next done).1 = none ∧ (a.next done).2 = a := by
  rcases hf.who done with ⟨w, h1, h2, h3, h4⟩ | ⟨h1, h2, h⟩
  · rw [hd w h2] at h3; cases h3
  · exact ⟨h1, h2⟩

/-- A row that may be written. -/
def Wb (H : Heap) (x : V) (n B : Nat) : Prop := n = 0 ∨ ∃ k cs, x = .sl k 0 n n ∧ H[k]? = some (.cells cs (.gr 1)) ∧ cs.length = n ∧ k < B
theorem Wb.frame {H H' : Heap} {x : V} {n B : Nat} (h : Wb H x n B) (e : ∀ k, k < B → H'[k]? = H[k]?) : Wb H' x n B := by
  rcases h with h | ⟨k, cs, h1, h2, h3, h4⟩
  · exact .inl h
  · exact .inr ⟨k, cs, h1, by rw [e k h4]; exact h2, h3, h4⟩
theorem Gr.wb {H0 H : Heap} {L : List (Nat × Blk)} {x : V} {n : Nat} {cs : List V} (h : Hp H0 H (gb 1 x cs ++ L)) (hg : Gr x n) (hl : cs.length = n) : Wb H x n H.length := by
  rcases hg with ⟨rfl, rfl⟩ | ⟨k, rfl⟩
  · exact .inl rfl
  · have := h.r 0 (k := k) (b := .cells cs (.gr 1)) rfl
    exact .inr ⟨k, cs, rfl, this, hl, (List.getElem?_eq_some_iff.1 this).1⟩
theorem Wb.write {H : Heap} {x : V} {n B : Nat} (h : Wb H x n B) {i : Nat} (hi : i < n) (v : V) (hv : v.scalar = true) : ∃ k cs, x = .sl k 0 n n ∧ k < B ∧ H[k]? = some (.cells cs (.gr 1)) ∧ wr H k i [v] = some (H.set k (.cells (cs.set i v) (.gr 1))) := by
  rcases h with h | ⟨k, cs, h1, h2, h3, h4⟩
  · omega
  · exact ⟨k, cs, h1, h4, h2, wr1 h2 rfl (by omega) hv⟩
theorem Wb.keep {H : Heap} {x : V} {n B k : Nat} {cs cs' : List V} (h : Wb H x n B) (hk : H[k]? = some (.cells cs (.gr 1))) (hl : cs'.length = cs.length) : Wb (H.set k (.cells cs' (.gr 1))) x n B := by
  rcases h with h | ⟨k', ds, h1, h2, h3, h4⟩
  · exact .inl h
  · by_cases e : k = k'
    · subst e
      rw [hk] at h2; cases h2
      exact .inr ⟨k, cs', h1, List.getElem?_set_self (List.getElem?_eq_some_iff.1 hk).1, by omega, h4⟩
    · exact .inr ⟨k', ds, h1, by rw [List.getElem?_set_ne e]; exact h2, h3, h4⟩
theorem SS.set {H : Heap} {q kt pb : Nat} {s : PS} (h : SS H q kt pb s) {k : Nat} {b : Blk} (h1 : k ≠ q) (h2 : k ≠ kt) (h3 : k ≠ pb) : SS (H.set k b) q kt pb s :=
  h.frame (List.getElem?_set_ne h1) (List.getElem?_set_ne h2) (List.getElem?_set_ne h3) (by simp)
theorem SS.app {H : Heap} {q kt pb : Nat} {s : PS} (h : SS H q kt pb s) {b : Blk} (h3 : pb < H.length) : SS (H ++ [b]) q kt pb s :=
  h.frame (List.getElem?_append_left h.q_lt) (List.getElem?_append_left h.kt_lt) (List.getElem?_append_left h3) (by simp)

structure YA where
  x1 : V
  x2 : V
  l1 : List Int
  l2 : List Int
  p : V

theorem Gr.sl {x : V} {n : Nat} (h : Gr x n) : Sl x := by
  rcases h with ⟨rfl, _⟩ | ⟨k, rfl⟩
  · exact .inl rfl
  · exact .inr ⟨_, _, _, _, rfl⟩

theorem again_law {H : Heap} {px py : V} {zs bs : List Int} (hx : Sl px) (hp : IL .i64 H px zs) (hg : SlG H 1 px) (hq : IL .i8 H py bs) (hbs : ∀ z, z ∈ bs → -128 ≤ z ∧ z ≤ 127) {w st : Int} (hw : 0 ≤ w ∧ w ≤ 255) (hst : 0 ≤ st ∧ st ≤ 255) :
    ∃ v H', callL E (.f 4) [.int .u8 w, px, py, .int .u8 st] H = some (v, H') ∧ v = .bool true := by
  refine call_G rfl fc4_ok gc4_ok rfl ?_
  unfold gc4 fc4
  dsimp only
  obtain ⟨m, hm, hm1, hm2⟩ : ∃ m : Nat, w.tmod 20 + 1 = (m : Int) ∧ 1 ≤ m ∧ m ≤ 20 := by
    have h1 := Int.tmod_lt_of_pos w (by omega : (0 : Int) < 20)
    have h0 : 0 ≤ w.tmod 20 := Int.tmod_nonneg _ hw.1
    exact ⟨(w.tmod 20 + 1).toNat, by omega, by omega, by omega⟩
  obtain ⟨cnt, hcnt, hcnt1⟩ : ∃ m : Nat, st.tmod 151 = (m : Int) ∧ m ≤ 150 := by
    have h1 := Int.tmod_lt_of_pos st (by omega : (0 : Int) < 151)
    have h0 : 0 ≤ st.tmod 151 := Int.tmod_nonneg _ hst.1
    exact ⟨(st.tmod 151).toNat, by omega, by omega⟩
  have hm' : (1 : Int) + w.tmod 20 = m := by omega
  have hw64 : IntKind.i64.wrap (w.tmod 20) = w.tmod 20 := w64 (by omega) (by omega)
  have hwm : IntKind.i64.wrap (m : Int) = m := w64 (by omega) (by omega)
  have hwc : IntKind.i64.wrap (cnt : Int) = cnt := w64 (by omega) (by omega)
  refine wa_sr ⟨_, by simp; rfl, ?_⟩
  refine wa_sr ⟨_, by simp [hw64, hm', hwm]; rfl, ?_⟩
  have hl := hp.len
  obtain ⟨x', hs1, hs2, hs3, hs4⟩ := hp.upto hg (min zs.length 60) (by omega)
  have hmn : (if (60 : Int) < zs.length then (60 : Int) else zs.length) = ((min zs.length 60 : Nat) : Int) := mn_len _ 60
  refine wa_sr ⟨_, by simp [hl, hmn, hs1]; rfl, ?_⟩
  obtain ⟨ps, hps⟩ : ∃ ps, ps = zs.take (min zs.length 60) := ⟨_, rfl⟩
  rw [← hps] at hs2
  have hpl : ps.length ≤ 60 := by rw [hps]; simp; omega
  have hlx := hs2.len
  refine wa_sr ⟨_, by simp; rfl, ?_⟩
  refine wa_sr ⟨_, by simp [hlx]; rfl, ?_⟩
  have hly := hq.len
  have hwd : ∀ i : Nat, i < 200 → IntKind.i64.wrap ((i : Int) + 1) = (i : Int) + 1 := fun i hi => w64 (by omega) (by omega)
  refine wa_cut (fun s => s.τ 9 = .int .i64 m ∧ s.τ 1 = x' ∧ s.τ 3 = .int .u8 st ∧ ∃ (x1 x2 : V) (l1 l2 : List Int), s.τ 10 = x1 ∧ s.τ 11 = x2 ∧ Hp H s.H (gb 1 x1 (l1.map (.int .i64)) ++ (gb 1 x2 (l2.map (.int .i64)) ++ [])) ∧ Gr x1 ps.length ∧ Gr x2 ps.length ∧ l1.length = ps.length ∧ l2.length = ps.length ∧ ∀ j : Nat, (l1.getD j 0) % (m : Int) = (l2.getD j 0) % (m : Int)) ?_ ?_
  · refine wa_for (n := ps.length) (fun i (y : YA) => [(9, .int .i64 m), (1, x'), (2, py), (3, .int .u8 st), (37, x'), (10, y.x1), (11, y.x2)])
      (fun i y H' => Hp H H' (gb 1 y.x1 (y.l1.map (.int .i64)) ++ (gb 1 y.x2 (y.l2.map (.int .i64)) ++ [])) ∧ Gr y.x1 i ∧ Gr y.x2 i ∧ y.l1.length = i ∧ y.l2.length = i ∧ ∀ j : Nat, (y.l1.getD j 0) % (m : Int) = (y.l2.getD j 0) % (m : Int)) ⟨.nils, .nils, [], [], .nils⟩
      (by decide) (fun i hi => hwd i (by omega)) (by simp) (by simp) (by simp [Rg]) ⟨Hp.refl H, .inl ⟨rfl, rfl⟩, .inl ⟨rfl, rfl⟩, rfl, rfl, fun j => rfl⟩ (by simp) ?_ ?_
    · rintro i ⟨x1, x2, l1, l2, _⟩ τ H2 hi t39 t38 ⟨t9, t1, t2, t3, t37, t10, t11, -⟩ ⟨hH, g1, g2, e1, e2, hcg⟩
      dsimp only [ev] at *
      obtain ⟨k, o, c, hxe, hrd⟩ := (hH.il hs2).at hi
      generalize ps.getD i 0 = z at hrd
      obtain ⟨p, hpz⟩ : ∃ p, p = z.tmod 1099511627776 := ⟨_, rfl⟩
      have hpb : -1099511627776 < p ∧ p < 1099511627776 := by
        have h1 := Int.tmod_lt_of_pos z (by omega : (0 : Int) < 1099511627776)
        have h2 : -(1099511627776 : Int) < z.tmod 1099511627776 := Int.lt_tmod_of_pos z (by omega)
        omega
      obtain ⟨x1', H3, a1, a2, a3, a4⟩ := push_ok (sz := 1) (by' := 8) (vs := [.int .i64 p]) hH g1 (by simpa using e1) rfl rfl (by omega) (by unfold lim; omega)
      refine wa_sr ⟨_, by simp [t37, t39, hxe, hi, hrd]; rfl, ?_⟩
      refine wa_sr ⟨_, by simp [← hpz]; rfl, ?_⟩
      refine wa_sr ⟨_, by simp [t10, fillc, wrc, a1]; rfl, ?_⟩
      refine wa_sr ⟨_, by simp [t2, hly]; rfl, ?_⟩
      have a3' : Hp H H3 (gb 1 x2 (l2.map (.int .i64)) ++ (gb 1 x1' ((l1 ++ [p]).map (.int .i64)) ++ [])) := a3.perm (by
        simp only [List.append_nil, List.map_append, List.map_cons, List.map_nil]
        exact List.perm_append_comm)
      refine wa_cut (fun s => s.H = H3 ∧ ∃ p', p' % (m : Int) = p % (m : Int) ∧ Rg s.τ [(9, .int .i64 m), (1, x'), (2, py), (3, .int .u8 st), (37, x'), (10, x1'), (11, x2), (13, .int .i64 p'), (39, .int .i64 i), (38, .int .i64 ps.length)]) ?_ ?_
      · by_cases hlt : i < bs.length
        · obtain ⟨k2, o2, c2, hye, hrd2⟩ := (a3'.il hq).at hlt
          have hbz := hbs (bs.getD i 0) (by rw [List.getD_eq_getElem?_getD, List.getElem?_eq_getElem hlt]; simp)
          generalize bs.getD i 0 = b at hrd2 hbz
          have hmul : -2560 ≤ b * m ∧ b * m ≤ 2560 := by
            constructor
            · have : b * m ≥ -128 * m := Int.mul_le_mul_of_nonneg_right hbz.1 (by omega)
              omega
            · have : b * m ≤ 128 * m := Int.mul_le_mul_of_nonneg_right (by omega) (by omega)
              omega
          have hwb : IntKind.i64.wrap b = b := w64 (by omega) (by omega)
          have hwbm : IntKind.i64.wrap (b * m) = b * m := w64 (by omega) (by omega)
          have hwp : IntKind.i64.wrap (p + b * m) = p + b * m := w64 (by omega) (by omega)
          refine wa_cond (t := true) (by simp [hlt]) (fun _ => ?_) (fun h => by cases h)
          refine wa_regs ⟨_, by simp [t2, t9, hye, hlt, hrd2, hwb, hwbm, hwp]; rfl, ?_⟩
          exact ⟨rfl, p + b * m, by rw [Int.mul_comm, Int.add_mul_emod_self_left], by simp [Rg, t9, t1, t2, t3, t37, t11, t39, t38, hye]⟩
        · refine wa_cond (t := false) (by simp; omega) (fun h => by cases h) (fun _ => wa_skip ?_)
          exact ⟨rfl, p, rfl, by simp [Rg, t9, t1, t2, t3, t37, t11, t39, t38]⟩
      · rintro ⟨τ', H3'⟩ ⟨hHH, p', hp', u9, u1, u2, u3, u37, u10, u11, u13, u39, u38, -⟩
        dsimp only at *
        subst hHH
        obtain ⟨x2', H4, b1, b2, b3, b4⟩ := push_ok (sz := 1) (by' := 8) (vs := [.int .i64 p']) a3' g2 (by simpa using e2) rfl rfl (by omega) (by unfold lim; omega)
        refine wa_regs ⟨_, by simp [u11, u13, fillc, wrc, b1]; rfl, ?_⟩
        refine ⟨by simp [u39], by simp [u38], ⟨x1', x2', l1 ++ [p], l2 ++ [p'], .nils⟩, by simp [Rg, u9, u1, u2, u3, u37, u10, u11], ?_, a2, b2, by simp [e1], by simp [e2], fun j => ?_⟩
        · refine b3.perm ?_
          simp only [List.append_nil, List.map_append, List.map_cons, List.map_nil]
          exact List.perm_append_comm
        · simp only [List.getD_eq_getElem?_getD]
          rw [List.getElem?_append, List.getElem?_append, e1, e2]
          split
          · have := hcg j
            simpa [List.getD_eq_getElem?_getD] using this
          · cases hj : j - i with
            | zero => simp [hp']
            | succ a => simp
    · rintro ⟨x1, x2, l1, l2, _⟩ τ H2 ⟨t9, t1, t2, t3, t37, t10, t11, -⟩ ⟨hH, g1, g2, e1, e2, hcg⟩
      exact ⟨t9, t1, t3, x1, x2, l1, l2, t10, t11, hH, g1, g2, e1, e2, hcg⟩
  · rintro ⟨τ, H2⟩ ⟨t9, t1, t3, x1, x2, l1, l2, t10, t11, hH, g1, g2, e1, e2, hcg⟩
    dsimp only at *
    have hH' : Hp H H2 (gb 1 x2 (l2.map (.int .i64)) ++ (gb 1 x1 (l1.map (.int .i64)) ++ [])) := hH.perm (by
      simp only [List.append_nil]; exact List.perm_append_comm)
    have i1 := Gr.il hH g1 e1
    have i2 := Gr.il hH' g2 e2
    have w1 := Gr.wb hH g1 (by simp [e1])
    have w2 := Gr.wb hH' g2 (by simp [e2])
    obtain ⟨pb1, H3, c1, c2, c3, c4, c5, c6⟩ := ss_new (Gr.sl g1) i1 (by omega) hm1 (by omega)
    have i2' : IL .i64 H3 x2 l2 := i2.frame fun k hk => c3 k (Rw.lt i2 k hk)
    obtain ⟨pb2, H4, d1, d2, d3, d4, d5, d6⟩ := ss_new (Gr.sl g2) i2' (by omega) hm1 (by omega)
    have f1 := fit_new l1 hm1 (by omega : m ≤ 64)
    have f2 := fit_new l2 hm1 (by omega : m ≤ 64)
    have hev : Eqv m (new0 m l1) (new0 m l2) := ⟨rfl, rfl, rfl, by simp [new0, e1, e2], hcg⟩
    have hpk : (new0 m l1).picks.length = ps.length - 0 := by simp [new0, e1]
    generalize new0 m l1 = A at *
    generalize new0 m l2 = B at *
    have hl1 := i1.len
    rw [e1] at hl1
    clear i1 i2 i2' hH hH'
    generalize hn2 : H2.length = n2 at *
    generalize hn3 : H3.length = n3 at *
    have c7 : SS H4 (n2 + 1) n2 pb1 A := c6.frame (d3 _ (by omega)) (d3 _ (by omega)) (d3 _ (by omega)) (by omega)
    have w1' : Wb H4 x1 ps.length n2 := w1.frame fun k hk => (d3 k (by omega)).trans (c3 k hk)
    have w2' : Wb H4 x2 ps.length n2 := w2.frame fun k hk => (d3 k (by omega)).trans (c3 k hk)
    refine wa_sr ⟨_, by simp [t9, t10, c1]; rfl, ?_⟩
    refine wa_sr ⟨_, by simp [t9, t11, d1]; rfl, ?_⟩
    refine wa_sr ⟨_, by simp; rfl, ?_⟩
    refine wa_if (t := false) (by simp) (fun h => by cases h) (fun _ => ?_)
    refine wa_sr ⟨_, by simp [t10, hl1]; rfl, ?_⟩
    refine wa_cut (fun s => s.τ 9 = .int .i64 m ∧ s.τ 1 = x' ∧ s.τ 3 = .int .u8 st ∧ s.τ 14 = .ptr (n2 + 1) 0 ∧ s.τ 16 = .ptr (n3 + 1) 0 ∧ SS s.H (n2 + 1) n2 pb1 A ∧ SS s.H (n3 + 1) n3 pb2 B ∧ H4.length = s.H.length) ?_ ?_
    · refine wa_for (n := ps.length) (fun i (_ : Unit) => [(9, .int .i64 m), (1, x'), (3, .int .u8 st), (14, .ptr (n2 + 1) 0), (16, .ptr (n3 + 1) 0), (10, x1), (11, x2)])
        (fun i _ H' => SS H' (n2 + 1) n2 pb1 A ∧ SS H' (n3 + 1) n3 pb2 B ∧ H4.length = H'.length ∧ Wb H' x1 ps.length n2 ∧ Wb H' x2 ps.length n2) ()
        (by decide) (fun i hi => hwd i (by omega)) (by simp) (by simp) (by simp [Rg, t9, t1, t3, t10, t11]) ⟨c7, d6, rfl, w1', w2'⟩ (by simp) ?_ ?_
      · rintro i _ τ H5 hi t88 t87 ⟨u9, u1, u3, u14, u16, u10, u11, -⟩ ⟨s1, s2, hlen, v1, v2⟩
        dsimp only [ev] at *
        obtain ⟨k1, cs1, hx1, hk1, hc1, hw1⟩ := v1.write hi (.int .i64 7) rfl
        have v2' := v2.keep hc1 (cs' := cs1.set i (.int .i64 7)) (by simp)
        have v1' := v1.keep hc1 (cs' := cs1.set i (.int .i64 7)) (by simp)
        have s1' : SS (H5.set k1 (.cells (cs1.set i (.int .i64 7)) (.gr 1))) (n2 + 1) n2 pb1 A := s1.set (by omega) (by omega) (by omega)
        have s2' : SS (H5.set k1 (.cells (cs1.set i (.int .i64 7)) (.gr 1))) (n3 + 1) n3 pb2 B := s2.set (by omega) (by omega) (by omega)
        have hlen' : H4.length = (H5.set k1 (.cells (cs1.set i (.int .i64 7)) (.gr 1))).length := by simp [hlen]
        generalize H5.set k1 (.cells (cs1.set i (.int .i64 7)) (.gr 1)) = H6 at *
        obtain ⟨k2, cs2, hx2, hk2, hc2, hw2⟩ := v2'.write hi (.int .i64 8) rfl
        refine wa_sr ⟨_, by simp [t88]; rfl, ?_⟩
        refine wa_regs ⟨_, by simp [u10, u11, hx1, hx2, hi, hw1, hw2]; rfl, ?_⟩
        exact ⟨by simp [t88], by simp [t87], (), by simp [Rg, u9, u1, u3, u14, u16, u10, u11, hx1, hx2], s1'.set (by omega) (by omega) (by omega), s2'.set (by omega) (by omega) (by omega), by simp [hlen'], v1'.keep hc2 (by simp), v2'.keep hc2 (by simp)⟩
      · rintro _ τ H5 ⟨u9, u1, u3, u14, u16, u10, u11, -⟩ ⟨s1, s2, hlen, v1, v2⟩
        exact ⟨u9, u1, u3, u14, u16, s1, s2, hlen⟩
    · rintro ⟨τ, H5⟩ ⟨u9, u1, u3, u14, u16, s1, s2, hlen⟩
      dsimp only at *
      have hlimm : (0 : Int) ≤ m ∧ (m : Int) ≤ (lim : Nat) ∧ (m : Int) * (1 : Nat) ≤ 2 ^ 40 := by unfold lim; omega
      have hbig : (m : Int) ≤ 1099511627776 := by omega
      have s1' := s1.app (b := .cells ((fillL (fun _ => true) false m 0).map .bool) .ex) (by omega)
      have s2' := s2.app (b := .cells ((fillL (fun _ => true) false m 0).map .bool) .ex) (by omega)
      have hk0 : (H5 ++ [Blk.cells ((fillL (fun _ => true) false m 0).map .bool) .ex])[H5.length]? = some (.cells ((fillL (fun _ => true) false m 0).map .bool) .ex) := by simp
      have hrep : List.replicate m (V.bool false) = (fillL (fun _ => true) false m 0).map .bool := by rw [fillL_zero]; simp
      refine wa_sr ⟨_, by simp [u9, hlimm, hbig, flatRep]; rfl, ?_⟩
      rw [hrep]
      generalize hka : H5.length = ka at *
      refine wa_sr ⟨_, by simp; rfl, ?_⟩
      refine wa_cut (fun s => s.τ 1 = x' ∧ s.τ 3 = .int .u8 st ∧ s.τ 14 = .ptr (n2 + 1) 0 ∧ s.τ 16 = .ptr (n3 + 1) 0 ∧ s.τ 19 = .sl ka 0 m m ∧ SS s.H (n2 + 1) n2 pb1 A ∧ SS s.H (n3 + 1) n3 pb2 B ∧ s.H[ka]? = some (.cells (((List.range m).map fun _ => true).map .bool) .ex)) ?_ ?_
      · refine wa_for (n := m) (fun i (_ : Unit) => [(1, x'), (3, .int .u8 st), (14, .ptr (n2 + 1) 0), (16, .ptr (n3 + 1) 0), (19, .sl ka 0 m m)])
          (fun i _ H' => SS H' (n2 + 1) n2 pb1 A ∧ SS H' (n3 + 1) n3 pb2 B ∧ H'[ka]? = some (.cells ((fillL (fun _ => true) false m i).map .bool) .ex)) ()
          (by decide) (fun i hi => hwd i (by omega)) (by simp) (by simp) (by simp [Rg, u1, u3, u14, u16]) ⟨s1', s2', hk0⟩ (by simp) ?_ ?_
        · rintro i _ τ H6 hi t102 t101 ⟨v1, v3, v14, v16, v19, -⟩ ⟨s1, s2, hk⟩
          dsimp only [ev] at *
          have hwr : wr H6 ka i [.bool true] = some (H6.set ka (.cells ((fillL (fun _ => true) false m (i + 1)).map .bool) .ex)) := by
            rw [wrB hk rfl (by rw [fillL_length]; exact hi), fillL_set (fun _ => true) _ _ _ hi]
          have hkl : ka < H6.length := (List.getElem?_eq_some_iff.1 hk).1
          refine wa_sr ⟨_, by simp [t102]; rfl, ?_⟩
          refine wa_regs ⟨_, by simp [v19, hi, hwr]; rfl, ?_⟩
          exact ⟨by simp [t102], by simp [t101], (), by simp [Rg, v1, v3, v14, v16, v19], s1.set (by omega) (by omega) (by omega), s2.set (by omega) (by omega) (by omega), List.getElem?_set_self hkl⟩
        · rintro _ τ H6 ⟨v1, v3, v14, v16, v19, -⟩ ⟨s1, s2, hk⟩
          exact ⟨v1, v3, v14, v16, v19, s1, s2, by rw [fillL_full] at hk; exact hk⟩
      · rintro ⟨τ, H6⟩ ⟨v1, v3, v14, v16, v19, s1, s2, hk⟩
        dsimp only at *
        refine wa_sr ⟨_, by simp [v3, hcnt, hwc]; rfl, ?_⟩
        have hall : ∀ w, w < m → ((List.range m).map fun _ => true).getD w false = true := fun w hw => by simp [hw]
        refine wa_cut (fun s => True) ?_ ?_
        · refine wa_for (n := cnt) (fun i (_ : PS × PS) => [(1, x'), (14, .ptr (n2 + 1) 0), (16, .ptr (n3 + 1) 0), (19, .sl ka 0 m m)])
            (fun i y H' => Fit y.1 m ∧ Fit y.2 m ∧ Eqv m y.1 y.2 ∧ y.1.picks.length = ps.length - i ∧ SS H' (n2 + 1) n2 pb1 y.1 ∧ SS H' (n3 + 1) n3 pb2 y.2 ∧ H'[ka]? = some (.cells (((List.range m).map fun _ => true).map .bool) .ex)) (A, B)
            (by decide) (fun i hi => hwd i (by omega)) (by simp) (by simp) (by simp [Rg, v1, v14, v16, v19]) ⟨f1, f2, hev, hpk, s1, s2, hk⟩ (by simp) ?_ ?_
          · rintro i ⟨sa, sb⟩ τ H7 hi t112 t111 ⟨w1, w14, w16, w19, -⟩ ⟨fa, fb, he, hpl, r1, r2, hk7⟩
            dsimp only [ev] at *
            have hbl : BL H7 (.sl ka 0 m m) ((List.range m).map fun _ => true) := by
              have := BL.own (c := m) hk7
              simpa using this
            have hk7l := (List.getElem?_eq_some_iff.1 hk7).1
            obtain ⟨Ha, a1, a2, a3, a4⟩ := r1.next fa hbl (fun k hk => by simp [V.blk?] at hk; subst hk; omega)
            obtain ⟨o1, o2⟩ := all_next fa hall
            rw [o1] at a1
            rw [o2] at a4
            simp only [Option.getD_none, Option.isSome_none] at a1
            have hq2 := r2.q_lt
            have hkt2 := r2.kt_lt
            have a5 := r2.frame (a3 _ hq2 (by omega) (by omega)) (a3 _ hkt2 (by omega) (by omega)) (a3 pb2 (by omega) (by omega) (by omega)) a2
            have hle := a4.left fa
            have a6 : Ha[ka]? = some (.cells (((List.range m).map fun _ => true).map .bool) .ex) := by rw [a3 ka hk7l (by omega) (by omega)]; exact hk7
            refine wa_sr ⟨_, by simp [t112]; rfl, ?_⟩
            refine wa_sr ⟨_, by simp [w14, w19, a1]; rfl, ?_⟩
            have hsub : IntKind.i64.wrap ((ps.length : Int) - i) = (ps.length : Int) - i := w64 (by omega) (by omega)
            have hmx : (if (ps.length : Int) - i < 0 then (0 : Int) else (ps.length : Int) - i) = ((ps.length - i : Nat) : Int) := by split <;> omega
            rw [hpl] at hle
            refine wa_sr ⟨_, by simp [w14, hle, w1, hlx, hsub, hmx]; rfl, ?_⟩
            refine wa_if (t := false) (by simp) (fun h => by cases h) (fun _ => ?_)
            obtain ⟨Hb, b1, b2, b3, b4⟩ := a4.next fa (d := .nils) (done := []) ⟨rfl, rfl⟩ (fun k hk => by simp [V.blk?] at hk)
            obtain ⟨p1, wa, p2⟩ := picks_next fa
            obtain ⟨n1, n2'⟩ := he.next fa fb []
            have hqa := a5.q_lt
            have hkta := a5.kt_lt
            have b5 := a5.frame (b3 _ hqa (by omega) (by omega)) (b3 _ hkta (by omega) (by omega)) (b3 pb2 (by omega) (by omega) (by omega)) b2
            have b6 : Hb[ka]? = some (.cells (((List.range m).map fun _ => true).map .bool) .ex) := by rw [b3 ka (by omega) (by omega) (by omega)]; exact a6
            obtain ⟨Hc, e1, e2, e3, e4⟩ := b5.next fb (d := .nils) (done := []) ⟨rfl, rfl⟩ (fun k hk => by simp [V.blk?] at hk)
            have hqb := b4.q_lt
            have hktb := b4.kt_lt
            have e5 := b4.frame (e3 _ hqb (by omega) (by omega)) (e3 _ hktb (by omega) (by omega)) (e3 pb1 (by omega) (by omega) (by omega)) e2
            have e6 : Hc[ka]? = some (.cells (((List.range m).map fun _ => true).map .bool) .ex) := by rw [e3 ka (by omega) (by omega) (by omega)]; exact b6
            rw [p2] at b1
            rw [← n1, p2] at e1
            simp only [Option.getD_some, Option.isSome_some] at b1 e1
            refine wa_sr ⟨_, by simp [w14, b1]; rfl, ?_⟩
            refine wa_sr ⟨_, by simp [w16, e1]; rfl, ?_⟩
            refine wa_sr ⟨_, by simp; rfl, ?_⟩
            refine wa_cond (t := false) (by simp) (fun h => by cases h) (fun _ => wa_skip ?_)
            exact ⟨by simp [t112], by simp [t111], ((sa.next []).2, (sb.next []).2), by simp [Rg, w1, w14, w16, w19], fa.next [], fb.next [], n2', by rw [p1]; simp; omega, e5, e4, e6⟩
          · rintro _ _ _ - -
            trivial
        · rintro ⟨τ, H7⟩ -
          refine wa_sr ⟨_, by simp [call_awake]; rfl, ?_⟩
          refine wa_ret ?_
          exact ⟨by simp, _, by simp; rfl, rfl⟩
end Go.Proofs.Yteogambpkgkmhaa
