/- NetJoins: the walk. -/
import Derived.Test.YtpojdgeginigjaaNr
import Derived.Test.YtpojdgeginigjaaAr32
set_option linter.unusedSimpArgs false
set_option linter.unusedVariables false
namespace Go.Proofs.Ytpojdgeginigjaa
open Go Go.Ar
set_option maxRecDepth 100000

theorem fold_max_le : ∀ (l : List Int) (b : Int), b ≤ l.foldl max b
  | [], b => Int.le_refl _
  | q :: l, b => by have := fold_max_le l (max b q); simp only [List.foldl_cons]; omega
theorem topOf_take_le (r : List Int) (i : Nat) : topOf (r.take i) ≤ topOf r := by
  have e : topOf r = (r.drop i).foldl max (topOf (r.take i)) := by
    unfold topOf
    rw [← List.foldl_append, List.take_append_drop]
  rw [e]; exact fold_max_le _ _

/-- Ends that were met, each once. -/
def mapO (l : List Ar.Arc) : List (V × V) := l.map fun a => (keyA a, .int .i64 1)
theorem findk_mapO (a : Ar.Arc) : ∀ (l : List Ar.Arc) (i : Nat), (∀ x, x ∈ l → ends x a = false) → findk (keyA a) (mapO l) i = some none
  | [], _, _ => rfl
  | x :: l, i, h => by
    have hk : keyEq (keyA a) (keyA x) = some (a.src == x.src && a.dst == x.dst) := by simp [keyEq, keyA]
    have hx := h x (by simp)
    have : (a.src == x.src && a.dst == x.dst) = false := by
      refine Bool.eq_false_iff.2 fun h' => ?_
      simp at h'
      rw [ends_iff.2 ⟨h'.1.symm, h'.2.symm⟩] at hx; cases hx
    have ih := findk_mapO a l (i + 1) fun y hy => h y (by simp [hy])
    unfold mapO at ih ⊢
    simp only [List.map_cons, findk, hk, this]
    exact ih
theorem findk_last (a : Ar.Arc) (v : V) : ∀ (l : List Ar.Arc) (i : Nat), (∀ x, x ∈ l → ends x a = false) → findk (keyA a) (mapO l ++ [(keyA a, v)]) i = some (some (i + l.length, v))
  | [], i, _ => by
    have hk : keyEq (keyA a) (keyA a) = some true := by simp [keyEq, keyA]
    simp [mapO, findk, hk]
  | x :: l, i, h => by
    have hk : keyEq (keyA a) (keyA x) = some (a.src == x.src && a.dst == x.dst) := by simp [keyEq, keyA]
    have hx := h x (by simp)
    have : (a.src == x.src && a.dst == x.dst) = false := by
      refine Bool.eq_false_iff.2 fun h' => ?_
      simp at h'
      rw [ends_iff.2 ⟨h'.1.symm, h'.2.symm⟩] at hx; cases hx
    have ih := findk_last a v l (i + 1) fun y hy => h y (by simp [hy])
    unfold mapO at ih ⊢
    simp only [List.map_cons, List.cons_append, findk, hk, this]
    rw [ih]; simp; omega

set_option maxHeartbeats 8000000 in
theorem joins_law {H : Heap} {n : Net} {a : V} (hin : NetIn H n a) :
    ∃ v H', callL E (.f 6) [NV n a] H = some (v, H') ∧ v = .bool true := by
  refine call_E rfl nc6 rfl ?_
  unfold gc6
  have h := hin.al
  have hl : lenOf a = some n.arcs.length := Rw.len h
  unfold NV
  refine wa_sr ⟨_, by simp [len_cells hl]; rfl, ?_⟩
  refine wa_sr ⟨_, by simp [hl]; rfl, ?_⟩
  by_cases hbig : 200 < n.arcs.length
  · refine wa_if (t := true) (by simp; omega) (fun _ => ?_) (fun h => by cases h)
    refine wa_sr ⟨_, by simp [call_yes (k := 26) rfl]; rfl, ?_⟩
    exact wa_rt ⟨by simp, _, by simp; rfl, rfl⟩
  refine wa_if (t := false) (by simp; omega) (fun h => by cases h) (fun _ => ?_)
  have hA := h.app [nbox n a]
  have r1 : ∀ G, rdn (H ++ [nbox n a] ++ G) H.length 0 4 = some [.int .i64 n.N, .int .i64 n.S, .int .i64 n.T, a] := fun G => by simp [nbox]
  have r1i : ∀ G i, rd (H ++ [nbox n a] ++ G) H.length i = [V.int .i64 n.N, .int .i64 n.S, .int .i64 n.T, a][i]? := fun G i => by simp [nbox]
  have hk1 : H.length < (H ++ [nbox n a]).length := by simp
  refine wa_rg [(1, .ptr H.length 0)] (by simp [Rg]) ?_
  change ∀ τ', Rg τ' [(1, .ptr H.length 0)] → WP E _ ⟨τ', H ++ [nbox n a]⟩ _
  generalize H ++ [nbox n a] = HA at *
  generalize H.length = k1 at *
  rintro τ ⟨t1, -⟩
  dsimp only at t1
  have r1e := r1 []
  rw [List.append_nil] at r1e
  obtain ⟨f0, g0⟩ := pc_check hA (by omega)
  unfold NV at g0
  by_cases hc0 : chk n = 0
  case neg =>
    obtain ⟨H1, e1, G1, hG1⟩ := join_bad hA (by omega) hc0
    unfold NV at e1
    refine wa_sr ⟨_, by simp -implicitDefEqProofs [t1, r1e, e1]; rfl, ?_⟩
    rw [hG1]
    refine wa_sr ⟨_, by simp -implicitDefEqProofs [t1, r1, g0, List.append_assoc]; rfl, ?_⟩
    refine wa_if (t := true) (by simp [hc0]) (fun _ => ?_) (fun h => by cases h)
    refine wa_sr ⟨_, by simp -implicitDefEqProofs [call_yes (k := 26) rfl]; rfl, ?_⟩
    exact wa_rt ⟨by simp, _, by simp; rfl, rfl⟩
  obtain ⟨x, y, H1, e1, ⟨G1, hG1⟩, e3, e4, e5⟩ := join_ok hA (by omega) hc0 (join_bounds hc0)
  rw [hc0] at g0
  have hji := ji_all n.arcs
  have hxs : x.scalar = true := len_scalar (Rw.len e3.al)
  unfold NV at e1
  refine wa_sr ⟨_, by simp -implicitDefEqProofs [t1, r1e, e1, hxs]; rfl, ?_⟩
  change WP E _ ⟨_, H1 ++ [nbox (joinN n) x]⟩ _
  have hAB : AL (H1 ++ [nbox (joinN n) x]) a n.arcs := by rw [hG1]; exact (hA.app G1).app _
  have hXB : AL (H1 ++ [nbox (joinN n) x]) x (joinN n).arcs := e3.al.app _
  have hYB : IL .i64 (H1 ++ [nbox (joinN n) x]) y (joinL n.arcs).2 := e4.il.app _
  have r1 : ∀ G, rdn (H1 ++ [nbox (joinN n) x] ++ G) k1 0 4 = some [.int .i64 n.N, .int .i64 n.S, .int .i64 n.T, a] := fun G => by rw [hG1, List.append_assoc, List.append_assoc]; exact r1 _
  have r1i : ∀ G i, rd (H1 ++ [nbox (joinN n) x] ++ G) k1 i = [V.int .i64 n.N, .int .i64 n.S, .int .i64 n.T, a][i]? := fun G i => by rw [hG1, List.append_assoc, List.append_assoc]; exact r1i _ _
  have r3 : ∀ G, rdn (H1 ++ [nbox (joinN n) x] ++ G) H1.length 0 4 = some [.int .i64 n.N, .int .i64 n.S, .int .i64 n.T, x] := fun G => by simp [nbox, joinN]
  have r3i : ∀ G i, rd (H1 ++ [nbox (joinN n) x] ++ G) H1.length i = [V.int .i64 n.N, .int .i64 n.S, .int .i64 n.T, x][i]? := fun G i => by simp [nbox, joinN]
  have hYl : lenOf y = some n.arcs.length := by rw [Rw.len hYB, hji.len]
  have hXl : lenOf x = some (joinN n).arcs.length := Rw.len hXB
  have hxsl := e3.sl
  refine wa_rg [(1, .ptr k1 0), (3, .ptr H1.length 0), (4, y)] (by simp [Rg, t1]) ?_
  clear t1 r1e g0 τ
  rintro τ ⟨t1, t3, t4, -⟩
  dsimp only at t1 t3 t4
  generalize H1 ++ [nbox (joinN n) x] = HB at *
  generalize H1.length = k3 at *
  have hjle : (joinN n).arcs.length ≤ n.arcs.length := hji.le
  obtain ⟨f0, g0⟩ := pc_check hAB (by omega)
  obtain ⟨f1, g1⟩ := pc_check hXB (by omega)
  rw [hc0] at g0
  rw [chk_join hc0] at g1
  unfold NV at g0 g1
  have g1' : ∀ G, callL E (.f 28) [.agg [.int .i64 n.N, .int .i64 n.S, .int .i64 n.T, x]] (HB ++ G) = some (.int .i64 0, HB ++ (G ++ f1 G)) := g1
  have r1e := r1 []
  have g0e := g0 []
  rw [List.append_nil] at r1e g0e
  rw [List.nil_append] at g0e
  refine wa_sr ⟨_, by simp -implicitDefEqProofs [t1, r1e, g0e]; rfl, ?_⟩
  refine wa_if (t := false) (by simp) (fun h => by cases h) (fun _ => ?_)
  refine wa_sr ⟨_, by simp -implicitDefEqProofs [t1, t3, t4, r3, r3i, r1i, g1', hYl, hl]; rfl, ?_⟩
  refine wa_if (t := false) (by simp) (fun h => by cases h) (fun _ => ?_)
  refine wa_rg [(1, .ptr k1 0), (3, .ptr k3 0), (4, y)] (by simp [Rg, t1, t3, t4]) ?_
  clear t1 t3 t4 r1e g0e τ
  rintro τ ⟨t1, t3, t4, -⟩
  dsimp only at t1 t3 t4
  generalize f0 [] ++ f1 (f0 []) = G2
  have hAC := hAB.app G2
  have hXC := hXB.app G2
  have hYC := hYB.app G2
  have r1 : ∀ G, rdn (HB ++ G2 ++ G) k1 0 4 = some [.int .i64 n.N, .int .i64 n.S, .int .i64 n.T, a] := fun G => by rw [List.append_assoc]; exact r1 _
  have r1i : ∀ G i, rd (HB ++ G2 ++ G) k1 i = [V.int .i64 n.N, .int .i64 n.S, .int .i64 n.T, a][i]? := fun G i => by rw [List.append_assoc]; exact r1i _ _
  have r3 : ∀ G, rdn (HB ++ G2 ++ G) k3 0 4 = some [.int .i64 n.N, .int .i64 n.S, .int .i64 n.T, x] := fun G => by rw [List.append_assoc]; exact r3 _
  have r3i : ∀ G i, rd (HB ++ G2 ++ G) k3 i = [V.int .i64 n.N, .int .i64 n.S, .int .i64 n.T, x][i]? := fun G i => by rw [List.append_assoc]; exact r3i _ _
  clear g0 g1 g1'
  generalize HB ++ G2 = HC at *
  -- the ends that were met
  refine wa_sr ⟨_, by simp; rfl, ?_⟩
  refine wa_sr ⟨_, by simp -implicitDefEqProofs [t3, r3i, hXl]; rfl, ?_⟩
  have hp0 := (Hp.refl HC).a (.mp [])
  generalize hHD : HC ++ [Blk.mp []] = HD at *
  generalize hkm : HC.length = km at *
  refine wa_cut (fun s => Hp HC s.H [] ∧ Rg s.τ [(1, .ptr k1 0), (3, .ptr k3 0), (4, y)]) ?_ ?_
  · refine wa_for (n := (joinN n).arcs.length) (fun i (_ : Unit) => [(1, .ptr k1 0), (3, .ptr k3 0), (4, y), (5, .map km), (83, x)]) (fun i _ H' => Hp HC H' [(km, .mp (mapO ((joinN n).arcs.take i)))]) ()
      (by decide) (fun i hi => w64 (by omega) (by omega)) (by simp) (by simp) (by simp [Rg, t1, t3, t4]) (by simpa [mapO] using hp0) (by simp) ?_ ?_
    · clear t1 t3 t4 τ
      rintro i _ τ H3 hi t85 t84 ⟨t1, t3, t4, t5, t83, -⟩ hP
      dsimp only [ev] at *
      obtain ⟨ka, o, cc, hae, _, _, hrd⟩ := AL.at (hP.rw hXC : AL H3 x (joinN n).arcs) hi
      have hnew : ∀ z, z ∈ (joinN n).arcs.take i → ends z (joinN n).arcs[i] = false := fun z hz => by
        obtain ⟨j, hj, rfl⟩ := List.mem_iff_getElem.1 hz
        simp only [List.length_take] at hj
        rw [List.getElem_take]
        refine Bool.eq_false_iff.2 fun h' => ?_
        have := hji.nd j i (by show j < (joinN n).arcs.length; omega) hi h'
        omega
      have hnl := hji.nl _ (List.getElem_mem hi : (joinN n).arcs[i] ∈ (joinN n).arcs)
      have htk : mapO ((joinN n).arcs.take (i + 1)) = mapO ((joinN n).arcs.take i) ++ [(keyA (joinN n).arcs[i], .int .i64 1)] := by
        rw [List.take_add_one, List.getElem?_eq_getElem hi]; simp only [mapO, Option.toList, List.map_append, List.map_cons, List.map_nil]
      have hlt : (mapO ((joinN n).arcs.take i)).length = i := by simp [mapO]; omega
      have hfk := findk_mapO (joinN n).arcs[i] _ 0 hnew
      have hfl := findk_last (joinN n).arcs[i] (.int .i64 1) _ 0 hnew
      rw [htk]
      generalize (joinN n).arcs[i] = ar at *
      generalize mapO ((joinN n).arcs.take i) = es at *
      unfold Arc.cells at hrd
      refine wa_sr ⟨_, by simp -implicitDefEqProofs [t83, t85, hae, hi, hrd]; rfl, ?_⟩
      have hP4 := (hP.a (.cells ar.cells .ex)).tl
      have k7 : ∀ o, rd (H3 ++ [.cells ar.cells .ex]) H3.length o = ar.cells[o]? := fun o => by simp
      have hk7 : H3.length < (H3 ++ [Blk.cells ar.cells .ex]).length := by simp
      change WP E _ ⟨_, H3 ++ [.cells ar.cells .ex]⟩ _
      generalize H3 ++ [Blk.cells ar.cells .ex] = H4 at *
      have hkml := hP.lt 0 rfl
      generalize hk7e : H3.length = k7n at *
      have p0 : rd H4 k7n 0 = some (.int .i64 ar.src) := k7 0
      have p1 : rd H4 k7n 1 = some (.int .i64 ar.dst) := k7 1
      have hm4 := hP4.r0
      dsimp only at hm4
      have hmo : mapOf H4 (.map km) = some es := by simp [mapOf, mpAt, hm4]
      have hma : mpAt H4 km = some es := by simp [mpAt, hm4]
      have hkf : keyf .pair (.agg [.int .i64 ar.src, .int .i64 ar.dst]) es = some none := hfk
      have hw1 : IntKind.i64.wrap (1 : Int) = 1 := by decide
      obtain ⟨H5, hH5, m5, hP5, o5⟩ : ∃ X, H4.set km (.mp (es ++ [(.agg [.int .i64 ar.src, .int .i64 ar.dst], .int .i64 0)])) = X ∧ X[km]? = some (.mp (es ++ [(.agg [.int .i64 ar.src, .int .i64 ar.dst], .int .i64 0)])) ∧ Hp HC X [(km, .mp (es ++ [(.agg [.int .i64 ar.src, .int .i64 ar.dst], .int .i64 0)]))] ∧ ∀ j, j ≠ km → X[j]? = H4[j]? :=
        ⟨_, rfl, (hP4.w0 _).r0, hP4.w0 _, fun j hj => List.getElem?_set_ne (fun e => hj e.symm)⟩
      have hma5 : mpAt H5 km = some (es ++ [(.agg [.int .i64 ar.src, .int .i64 ar.dst], .int .i64 0)]) := by simp [mpAt, m5]
      have hes : (es ++ [(V.agg [.int .i64 ar.src, .int .i64 ar.dst], V.int .i64 0)])[es.length]? = some (.agg [.int .i64 ar.src, .int .i64 ar.dst], .int .i64 0) := by simp
      have hset : (es ++ [(V.agg [.int .i64 ar.src, .int .i64 ar.dst], V.int .i64 0)]).set es.length (.agg [.int .i64 ar.src, .int .i64 ar.dst], .int .i64 1) = es ++ [(keyA ar, .int .i64 1)] := by simp [keyA]
      obtain ⟨H6, hH6, m6, hP6, o6⟩ : ∃ X, H5.set km (.mp (es ++ [(keyA ar, .int .i64 1)])) = X ∧ X[km]? = some (.mp (es ++ [(keyA ar, .int .i64 1)])) ∧ Hp HC X [(km, .mp (es ++ [(keyA ar, .int .i64 1)]))] ∧ ∀ j, j ≠ km → X[j]? = H5[j]? :=
        ⟨_, rfl, (hP5.w0 _).r0, hP5.w0 _, fun j hj => List.getElem?_set_ne (fun e => hj e.symm)⟩
      refine wa_dr rfl rfl ⟨_, by simp -implicitDefEqProofs [t5, p0, p1, fillc, hmo, hma, hkf, hw1, hH5, hma5, hes, hset, hH6]; rfl, ?_⟩
      have s0 : rd H6 k7n 0 = some (.int .i64 ar.src) := by simp only [rd]; rw [o6 k7n (by omega), o5 k7n (by omega)]; exact p0
      have s1 : rd H6 k7n 1 = some (.int .i64 ar.dst) := by simp only [rd]; rw [o6 k7n (by omega), o5 k7n (by omega)]; exact p1
      have hmo6 : mapOf H6 (.map km) = some (es ++ [(keyA ar, .int .i64 1)]) := by simp [mapOf, mpAt, m6]
      have hkf6 : keyf .pair (.agg [.int .i64 ar.src, .int .i64 ar.dst]) (es ++ [(keyA ar, .int .i64 1)]) = some (some (0 + ((joinN n).arcs.take i).length, .int .i64 1)) := hfl
      have hnl' : (ar.src == ar.dst) = false := by simpa using hnl
      refine wa_sr ⟨_, by simp -implicitDefEqProofs [t5, s0, s1, fillc, hmo6, hkf6, hnl']; rfl, ?_⟩
      refine wa_cond (t := false) (by simp) (fun h => by cases h) (fun _ => wa_skip ?_)
      exact ⟨by simp [t85], by simp [t84], (), by simp [Rg, t1, t3, t4, t5, t83, hae], hP6⟩
    · rintro _ τ H3 ⟨t1, t3, t4, t5, t83, -⟩ hP
      exact ⟨hP.tl, by simp [Rg, t1, t3, t4]⟩
  clear t1 t3 t4 τ hp0 hHD hkm
  rintro ⟨τ, HE⟩ ⟨hPE, t1, t3, t4, -⟩
  dsimp only at hPE t1 t3 t4
  obtain ⟨GE, hGE⟩ := hPE.eq
  have hXE := hPE.rw hXC
  have hYE := hPE.il hYC
  have hAE := hPE.rw hAC
  have r1 : ∀ G, rdn (HE ++ G) k1 0 4 = some [.int .i64 n.N, .int .i64 n.S, .int .i64 n.T, a] := fun G => by rw [hGE, List.append_assoc]; exact r1 _
  have r1i : ∀ G i, rd (HE ++ G) k1 i = [V.int .i64 n.N, .int .i64 n.S, .int .i64 n.T, a][i]? := fun G i => by rw [hGE, List.append_assoc]; exact r1i _ _
  have r3 : ∀ G, rdn (HE ++ G) k3 0 4 = some [.int .i64 n.N, .int .i64 n.S, .int .i64 n.T, x] := fun G => by rw [hGE, List.append_assoc]; exact r3 _
  have r3i : ∀ G i, rd (HE ++ G) k3 i = [V.int .i64 n.N, .int .i64 n.S, .int .i64 n.T, x][i]? := fun G i => by rw [hGE, List.append_assoc]; exact r3i _ _
  clear hPE hGE GE
  -- what is left
  obtain ⟨z, H1', e7, ⟨G7, hG7⟩, e8⟩ := copy_ok (n := joinN n) hXE hxsl (by omega)
  have hzs : z.scalar = true := len_scalar (Rw.len e8.al)
  have e7' : callL E (.f 27) [.agg [.int .i64 n.N, .int .i64 n.S, .int .i64 n.T, x]] HE = some (.agg [.int .i64 n.N, .int .i64 n.S, .int .i64 n.T, z], H1') := e7
  have r3e := r3 []
  rw [List.append_nil] at r3e
  refine wa_sr ⟨_, by simp -implicitDefEqProofs [t3, r3e, e7', hzs]; rfl, ?_⟩
  change WP E _ ⟨_, H1' ++ [nbox (joinN n) z]⟩ _
  have hm0 : MB HE.length (H1' ++ [nbox (joinN n) z]) H1'.length (joinN n) z := ⟨by rw [hG7]; simp, by simp, (e8.app _), fun k hk => by have := Rw.lt e8.al k hk; omega⟩
  have hpE0 : Hp HE (H1' ++ [nbox (joinN n) z]) [] := by rw [hG7, List.append_assoc]; exact Hp.app _ _
  generalize H1' ++ [nbox (joinN n) z] = HF at *
  generalize H1'.length = k8 at *
  refine wa_sr ⟨_, by simp; rfl, ?_⟩
  refine wa_sr ⟨_, by simp -implicitDefEqProofs [t4, hYl]; rfl, ?_⟩
  obtain ⟨_, _, _, _, hpos, hsum⟩ := chk_zero hc0
  have hsumb := ((sumOk_iff _).1 hsum).2
  unfold big at hsumb
  generalize hrr : (joinL n.arcs).2 = r at *
  have hrl := hji.len
  refine wa_cut (fun s => Hp HE s.H [] ∧ MB HE.length s.H k8 { joinN n with arcs := leftL n.arcs (joinN n).arcs r n.arcs.length } z ∧ Rg s.τ [(1, .ptr k1 0), (3, .ptr k3 0), (4, y), (8, .ptr k8 0)]) ?_ ?_
  · refine wa_for (n := n.arcs.length) (fun i (last : Int) => [(1, .ptr k1 0), (3, .ptr k3 0), (4, y), (8, .ptr k8 0), (9, .int .i64 last), (117, y)]) (fun i last H' => last = topOf (r.take i) ∧ Hp HE H' [] ∧ MB HE.length H' k8 { joinN n with arcs := leftL n.arcs (joinN n).arcs r i } z) (-1)
      (by decide) (fun i hi => w64 (by omega) (by omega)) (by simp) (by simp) (by simp [Rg, t1, t3, t4]) ⟨rfl, hpE0, by rw [leftL_zero]; exact hm0⟩ (by simp) ?_ ?_
    · clear t1 t3 t4 τ
      rintro i last τ H3 hi t119 t118 ⟨t1, t3, t4, t8, t9, t117, -⟩ ⟨hlast, hP, hM⟩
      dsimp only [ev] at *
      have hil : i < r.length := by omega
      obtain ⟨ky, oy, cy', hye, hry⟩ := (hP.il hYE).at hil
      obtain ⟨ka, oa, ca, hae, _, hra, _⟩ := AL.at (hP.rw hAE : AL H3 a n.arcs) hi
      have hprt := hji.prt i hi
      have hstp := hji.stp i hi
      have hgd : r.getD i 0 = r[i]?.getD 0 := List.getD_eq_getElem?_getD
      obtain ⟨G3, hG3⟩ := hP.eq
      have r1i3 : ∀ G, rd (H3 ++ G) k1 3 = some a := fun G => by rw [hG3, List.append_assoc]; exact r1i _ 3
      have r3i3 : ∀ G, rd (H3 ++ G) k3 3 = some x := fun G => by rw [hG3, List.append_assoc]; exact r3i _ 3
      refine wa_sr ⟨_, by simp -implicitDefEqProofs [t117, t119, hye, hil, hry, hrl, hi]; rfl, ?_⟩
      have hra' : ∀ G, rdn (H3 ++ G) ka (oa + i * 3) 3 = some [.int .i64 n.arcs[i].src, .int .i64 n.arcs[i].dst, .int .i64 n.arcs[i].cap] := hra
      have r1e3 := r1i3 []
      have hrae := hra' []
      rw [List.append_nil] at r1e3 hrae
      have hM4 := hM.app [.cells n.arcs[i].cells .ex]
      have hP4 := Hp_app hP [.cells n.arcs[i].cells .ex]
      refine wa_sr ⟨_, by simp -implicitDefEqProofs [t1, r1e3, hae, hi, hrae]; rfl, ?_⟩
      have k12 : ∀ o, rd (H3 ++ [.cells n.arcs[i].cells .ex]) H3.length o = n.arcs[i].cells[o]? := fun o => by simp
      have r1i4 := r1i3 [.cells n.arcs[i].cells .ex]
      have r3i4 := r3i3 [.cells n.arcs[i].cells .ex]
      change WP E _ ⟨_, H3 ++ [.cells n.arcs[i].cells .ex]⟩ _
      generalize H3 ++ [Blk.cells n.arcs[i].cells .ex] = H4 at *
      generalize H3.length = k12n at *
      have p0 : rd H4 k12n 0 = some (.int .i64 n.arcs[i].src) := k12 0
      have p1 : rd H4 k12n 1 = some (.int .i64 n.arcs[i].dst) := k12 1
      have p2 : rd H4 k12n 2 = some (.int .i64 n.arcs[i].cap) := k12 2
      have htop : topOf (r.take (i + 1)) = max (topOf (r.take i)) (r.getD i 0) := by
        rw [List.take_add_one, List.getElem?_eq_getElem hil, List.getD_eq_getElem?_getD, List.getElem?_eq_getElem hil]
        exact topOf_snoc _ _
      have htopb : -1 ≤ topOf (r.take i) := by
        have : ∀ (l : List Int) (b : Int), b ≤ l.foldl max b := by
          intro l
          induction l with
          | nil => intro b; exact Int.le_refl _
          | cons q l ih => intro b; have := ih (max b q); simp only [List.foldl_cons]; omega
        exact this _ _
      refine wa_rg [(1, .ptr k1 0), (3, .ptr k3 0), (4, y), (8, .ptr k8 0), (9, .int .i64 last), (117, y), (119, .int .i64 i), (118, .int .i64 n.arcs.length), (11, .int .i64 (r.getD i 0)), (12, .ptr k12n 0)] (by simp [Rg, t1, t3, t4, t8, t9, t117, t119, t118, hye, hrl, List.getElem?_eq_getElem hil]) ?_
      clear t1 t3 t4 t8 t9 t117 t119 t118 τ
      rintro τ ⟨t1, t3, t4, t8, t9, t117, t119, t118, t11, t12, -⟩
      dsimp only at t1 t3 t4 t8 t9 t117 t119 t118 t11 t12
      have htl := topOf_take_le r i
      have htr : topOf r = ((joinN n).arcs.length : Int) - 1 := hji.top
      have hll : (joinN n).arcs.length ≤ 200 := by omega
      rcases hprt with ⟨hneg, hself⟩ | ⟨hns, k, hk0', hrk, hends⟩
      · have hlneg := leftL_neg (out := (joinN n).arcs) hi hrl (by omega)
        rw [hneg] at htop hstp t11
        have hself' : (n.arcs[i].src == n.arcs[i].dst) = true := by simpa using hself
        have hneg1 : ¬ (((joinN n).arcs.length : Int) ≤ -1) := by omega
        have hwl : IntKind.i64.wrap (last + 1) = last + 1 := w64 (by omega) (by omega)
        have hneg2 : ¬ (last + 1 < -1) := by omega
        refine wa_sr ⟨_, by simp -implicitDefEqProofs [t11, t12, t3, t9, p0, p1, hself', r3i4, hXl, hneg1, hwl, hneg2]; rfl, ?_⟩
        refine wa_if (t := false) (by simp) (fun h => by cases h) (fun _ => ?_)
        have hmx : ¬ (last < -1) := by omega
        refine wa_sr ⟨_, by simp -implicitDefEqProofs [t11, t9, hmx]; rfl, ?_⟩
        refine wa_sr ⟨_, by simp -implicitDefEqProofs [t11]; rfl, ?_⟩
        refine wa_if (t := true) (by simp) (fun _ => wa_ex ?_) (fun h => by cases h)
        exact ⟨by simp [t119], by simp [t118, hrl, hye], last, by simp [Rg, t1, t3, t4, t8, t117], by omega, hP4, by rw [hlneg]; exact hM4⟩
      · have hk : k < (joinN n).arcs.length := hk0'
        have hns' : (n.arcs[i].src == n.arcs[i].dst) = false := by simpa using hns
        have hge1 : ¬ (((joinN n).arcs.length : Int) ≤ (k : Int)) := by omega
        have hwl : IntKind.i64.wrap (last + 1) = last + 1 := w64 (by omega) (by omega)
        rw [hrk] at hstp htop t11
        have hgt : ¬ (last + 1 < (k : Int)) := by omega
        have hk0 : ¬ ((k : Int) < 0) := by omega
        refine wa_sr ⟨_, by simp -implicitDefEqProofs [t11, t12, t3, t9, p0, p1, hns', r3i4, hXl, hge1, hwl, hgt, hk0]; rfl, ?_⟩
        refine wa_if (t := false) (by simp) (fun h => by cases h) (fun _ => ?_)
        refine wa_sr ⟨_, by simp -implicitDefEqProofs [t11, t9]; rfl, ?_⟩
        refine wa_sr ⟨_, by simp -implicitDefEqProofs [t11, hk0]; rfl, ?_⟩
        refine wa_if (t := false) (by simp) (fun h => by cases h) (fun _ => ?_)
        have hmxv : (if last < (k : Int) then (k : Int) else last) = topOf (r.take (i + 1)) := by rw [htop]; split <;> omega
        rw [hmxv]
        refine wa_rg [(1, .ptr k1 0), (3, .ptr k3 0), (4, y), (8, .ptr k8 0), (9, .int .i64 (topOf (r.take (i + 1)))), (117, y), (119, .int .i64 i), (118, .int .i64 n.arcs.length), (11, .int .i64 k), (12, .ptr k12n 0)] (by simp [Rg, t1, t3, t4, t8, t117, t119, t118, t11, t12]) ?_
        clear t1 t3 t4 t8 t9 t117 t119 t118 t11 t12 τ
        rintro τ ⟨t1, t3, t4, t8, t9, t117, t119, t118, t11, t12, -⟩
        dsimp only at t1 t3 t4 t8 t9 t117 t119 t118 t11 t12
        obtain ⟨kx, ox, cx, hxe, _, _, hrx⟩ := AL.at (hP4.rw hXE : AL H4 x (joinN n).arcs) hk
        have x0 : rd H4 kx (ox + k * 3) = some (.int .i64 n.arcs[i].src) := by
          have := rd_of_rdn hrx (j := 0) (by omega)
          rw [← (ends_iff.1 hends).1]; exact this
        have x1 : rd H4 kx (ox + k * 3 + 1) = some (.int .i64 n.arcs[i].dst) := by
          have := rd_of_rdn hrx (j := 1) (by omega)
          rw [← (ends_iff.1 hends).2]; exact this
        refine wa_dr rfl rfl ⟨_, by simp -implicitDefEqProofs [t3, t11, t12, r3i4, hxe, hk, x0, x1, p0, p1]; rfl, ?_⟩
        refine wa_if (t := false) (by simp) (fun h => by cases h) (fun _ => ?_)
        have hkL : k < (leftL n.arcs (joinN n).arcs r i).length := by rw [leftL_length]; exact hk
        obtain ⟨kz, hze, hkzB, hkzl, hrz, hwz⟩ := hM4.arc (i := k) hkL
        have hbd : 0 ≤ ((leftL n.arcs (joinN n).arcs r i)[k]).cap ∧ ((leftL n.arcs (joinN n).arcs r i)[k]).cap ≤ capS n.arcs := leftL_bounds hji hpos hkL
        have hcp := hpos _ (List.getElem_mem hi)
        have hcs := cap_le n.arcs hpos _ (List.getElem_mem hi)
        have hstep := leftL_step (out := (joinN n).arcs) hi hrl hkL hrk
        have hrz2 : rd H4 kz (k * 3 + 2) = some (.int .i64 ((leftL n.arcs (joinN n).arcs r i)[k]).cap) := by
          have := hrz []
          rw [List.append_nil] at this
          exact rd_of_rdn this (j := 2) (by omega)
        generalize hlv : (leftL n.arcs (joinN n).arcs r i)[k] = lv at *
        obtain ⟨H5, w5, l5, hM5, hf5⟩ := hwz 2 (.int .i64 (lv.cap - n.arcs[i].cap)) ⟨lv.src, lv.dst, lv.cap - n.arcs[i].cap⟩ (by omega) rfl rfl
        have hw5 : IntKind.i64.wrap (lv.cap - n.arcs[i].cap) = lv.cap - n.arcs[i].cap := w64 (by omega) (by omega)
        have z3 := hM4.rd3 []
        rw [List.append_nil] at z3
        dsimp only at hze
        refine wa_drl rfl rfl ⟨_, by simp -implicitDefEqProofs [t8, t11, t12, z3, hze, hkL, hrz2, p2, hw5, w5]; rfl, ?_⟩
        refine ⟨by simp [t119], by simp [t118, hrl, hye], topOf (r.take (i + 1)), by simp [Rg, t1, t3, t4, t8, t9, t117], rfl, Hp_frame hP4 l5 hf5 hkzB, by rw [hstep]; exact hM5⟩
    · rintro last τ H3 ⟨t1, t3, t4, t8, t9, t117, -⟩ ⟨hlast, hP, hM⟩
      exact ⟨hP, hM, by simp [Rg, t1, t3, t4, t8]⟩
  clear t1 t3 t4 τ
  rintro ⟨τ, HG⟩ ⟨hPG, hMG, t1, t3, t4, t8, -⟩
  dsimp only at hPG hMG t1 t3 t4 t8
  have z3 := hMG.rd3 []
  rw [List.append_nil] at z3
  have hzl : lenOf z = some (joinN n).arcs.length := by
    have := Rw.len hMG.own.al
    dsimp only at this
    rw [leftL_length] at this; exact this
  refine wa_sr ⟨_, by simp -implicitDefEqProofs [t8, z3, hzl]; rfl, ?_⟩
  -- nothing is left
  refine wa_cut (fun s => Hp HG s.H [] ∧ Rg s.τ [(1, .ptr k1 0), (3, .ptr k3 0)]) ?_ ?_
  · refine wa_for (n := (joinN n).arcs.length) (fun i (_ : Unit) => [(1, .ptr k1 0), (3, .ptr k3 0), (188, z)]) (fun i _ H' => Hp HG H' []) ()
      (by decide) (fun i hi => w64 (by omega) (by omega)) (by simp) (by simp) (by simp [Rg, t1, t3]) (Hp.refl HG) (by simp) ?_ ?_
    · clear t1 t3 t4 t8 τ
      rintro i _ τ H3 hi t190 t189 ⟨t1, t3, t188, -⟩ hP
      dsimp only [ev] at *
      have hiL : i < (leftL n.arcs (joinN n).arcs r n.arcs.length).length := by rw [leftL_length]; exact hi
      obtain ⟨kz, oz, cz, hze, _, _, hrz⟩ := AL.at (hP.rw hMG.own.al : AL H3 z (leftL n.arcs (joinN n).arcs r n.arcs.length)) hiL
      have hcap0 := leftL_full hji (k := i) hiL
      rw [leftL_length] at hze
      change ((leftL n.arcs (joinN n).arcs r n.arcs.length)[i]).cap = 0 at hcap0
      generalize (leftL n.arcs (joinN n).arcs r n.arcs.length)[i] = lv at *
      unfold Arc.cells at hrz
      refine wa_sr ⟨_, by simp -implicitDefEqProofs [t188, t190, hze, hi, hrz]; rfl, ?_⟩
      refine wa_sr ⟨_, by simp -implicitDefEqProofs [hcap0]; rfl, ?_⟩
      refine wa_cond (t := false) (by simp) (fun h => by cases h) (fun _ => wa_skip ?_)
      exact ⟨by simp [t190], by simp [t189], (), by simp [Rg, t1, t3, t188, hze], Hp_app hP _⟩
    · rintro _ τ H3 ⟨t1, t3, t188, -⟩ hP
      exact ⟨hP, by simp [Rg, t1, t3]⟩
  clear t1 t3 t4 t8 τ
  rintro ⟨τ, HH⟩ ⟨hPH, t1, t3, -⟩
  dsimp only at hPH t1 t3
  have hPH2 : Hp HE HH [] := hPG.x hPH
  have hXH := hPH2.rw hXE
  obtain ⟨GH, hGH⟩ := hPH2.eq
  have r3 : ∀ G, rdn (HH ++ G) k3 0 4 = some [.int .i64 n.N, .int .i64 n.S, .int .i64 n.T, x] := fun G => by rw [hGH, List.append_assoc]; exact r3 _
  clear hGH hPH hPH2 hPG hMG z3
  -- joined again
  obtain ⟨x2, y2, H2, e2, ⟨G2, hG2⟩, e3, e4, _⟩ := join_ok (n := joinN n) hXH (by omega) (chk_join hc0) (join_bounds (chk_join hc0))
  obtain ⟨hjj, hjr⟩ := join_join n
  rw [hjj] at e2 e3
  rw [hjr] at e4
  have hx2s : x2.scalar = true := len_scalar (Rw.len e3.al)
  have e2' : callL E (.f 40) [.agg [.int .i64 n.N, .int .i64 n.S, .int .i64 n.T, x]] HH = some (.tup [.agg [.int .i64 n.N, .int .i64 n.S, .int .i64 n.T, x2], y2], H2) := e2
  have r3e := r3 []
  rw [List.append_nil] at r3e
  refine wa_sr ⟨_, by simp -implicitDefEqProofs [t3, r3e, e2', hx2s]; rfl, ?_⟩
  change WP E _ ⟨_, H2 ++ [nbox (joinN n) x2]⟩ _
  have hY2 : IL .i64 (H2 ++ [nbox (joinN n) x2]) y2 ((List.range (joinN n).arcs.length).map fun j : Nat => (j : Int)) := e4.il.app _
  have hX2 : AL (H2 ++ [nbox (joinN n) x2]) x2 (joinN n).arcs := e3.al.app _
  have hXX : AL (H2 ++ [nbox (joinN n) x2]) x (joinN n).arcs := by rw [hG2]; exact (AL.app hXH G2).app _
  have hb2 : ∀ G, rdn (H2 ++ [nbox (joinN n) x2] ++ G) H2.length 0 4 = some [.int .i64 n.N, .int .i64 n.S, .int .i64 n.T, x2] := fun G => by simp [nbox, joinN]
  have r3 : ∀ G, rdn (H2 ++ [nbox (joinN n) x2] ++ G) k3 0 4 = some [.int .i64 n.N, .int .i64 n.S, .int .i64 n.T, x] := fun G => by rw [hG2, List.append_assoc, List.append_assoc]; exact r3 _
  have hY2l : lenOf y2 = some (joinN n).arcs.length := by have := Rw.len hY2; simpa using this
  generalize H2 ++ [nbox (joinN n) x2] = HI at *
  generalize H2.length = k15 at *
  refine wa_sr ⟨_, by simp -implicitDefEqProofs [hY2l]; rfl, ?_⟩
  refine wa_cut (fun s => s.H = HI ∧ Rg s.τ [(3, .ptr k3 0), (15, .ptr k15 0)]) ?_ ?_
  · refine wa_for (n := (joinN n).arcs.length) (fun i (_ : Unit) => [(3, .ptr k3 0), (15, .ptr k15 0), (203, y2)]) (fun i _ H' => H' = HI) ()
      (by decide) (fun i hi => w64 (by omega) (by omega)) (by simp) (by simp) (by simp [Rg, t3]) rfl (by simp) ?_ ?_
    · clear t1 t3 τ
      rintro i _ τ H3 hi t205 t204 ⟨t3, t15, t203, -⟩ rfl
      dsimp only [ev] at *
      obtain ⟨ky, oy, cy', hye, hry⟩ := hY2.at (n := i) (by simpa using hi)
      have hgi : ((List.range (joinN n).arcs.length).map fun j : Nat => (j : Int)).getD i 0 = i := by simp [hi]
      rw [hgi] at hry
      simp only [List.length_map, List.length_range] at hye
      refine wa_sr ⟨_, by simp -implicitDefEqProofs [t203, t205, hye, hi, hry]; rfl, ?_⟩
      refine wa_sr ⟨_, by simp -implicitDefEqProofs; rfl, ?_⟩
      refine wa_cond (t := false) (by simp) (fun h => by cases h) (fun _ => wa_skip ?_)
      exact ⟨by simp [t205], by simp [t204], (), by simp [Rg, t3, t15, t203, hye], rfl⟩
    · rintro _ τ H3 ⟨t3, t15, t203, -⟩ hP
      exact ⟨hP, by simp [Rg, t3, t15]⟩
  clear t1 t3 τ
  rintro ⟨τ, H'⟩ ⟨rfl, t3, t15, -⟩
  dsimp only at *
  obtain ⟨fz, hz⟩ := pc_samenet (m := joinN n) (n := joinN n) hX2 hXX (by omega)
  rw [sameB_true ⟨rfl, rfl, rfl, rfl⟩] at hz
  have hz' := hz []
  rw [List.append_nil] at hz'
  have hz2 : callL E (.f 41) [.agg [.int .i64 n.N, .int .i64 n.S, .int .i64 n.T, x2], .agg [.int .i64 n.N, .int .i64 n.S, .int .i64 n.T, x]] H' = some (.bool true, H' ++ ([] ++ fz [])) := hz'
  have hb2e := hb2 []
  have r3e := r3 []
  rw [List.append_nil] at hb2e r3e
  refine wa_sr ⟨_, by simp -implicitDefEqProofs [t3, t15, hb2e, r3e, hz2, call_yes (k := 26) rfl]; rfl, ?_⟩
  exact wa_ret ⟨by simp, _, by simp; rfl, rfl⟩
end Go.Proofs.Ytpojdgeginigjaa
