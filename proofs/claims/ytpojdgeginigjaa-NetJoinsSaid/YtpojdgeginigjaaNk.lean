/- NetCopies: the walk. -/
import Derived.Test.YtpojdgeginigjaaNj
set_option linter.unusedSimpArgs false
set_option linter.unusedVariables false
namespace Go.Proofs.Ytpojdgeginigjaa
open Go Go.Ar
set_option maxRecDepth 100000

theorem pcopy_ok {n : Net} {a : V} {H : Heap} {hide : List Nat} (h : AL H a n.arcs) (hx : Sl a) (hs : n.arcs.length ≤ 2 ^ 20) (hk : ∀ k, a.blk? = some k → k ∉ hide) : ∃ x G, pcall (callL E) hide (.f 27) [NV n a] H = some (NV n x, H ++ G) ∧ Own3 (H ++ G) H.length x n.arcs := by
  obtain ⟨x, H', h1, ⟨G, rfl⟩, h3⟩ := copy_ok (h.prot (hide := hide) hk) hx hs
  refine ⟨x, G, pcall_run h1, ?_⟩
  have := h3.ge
  rw [length_prot] at h3 this
  refine h3.frame fun k hk => ?_
  have := this k hk
  rw [List.getElem?_append_right (by omega), List.getElem?_append_right (by rw [length_prot]; omega), length_prot]

theorem wrap_ne {v : Int} (h : i64b v) : IntKind.i64.wrap (v + 1) ≠ v := by
  unfold i64b at h
  simp [IntKind.wrap, IntKind.bits, IntKind.signed]
  omega
theorem sameB_comm (m n : Net) : sameB m n = sameB n m := by
  rw [Bool.eq_iff_iff]
  simp only [sameB, decide_eq_true_eq]
  constructor <;> rintro ⟨a, b, c, d⟩ <;> exact ⟨a.symm, b.symm, c.symm, d.symm⟩

theorem MB.frame {B k3 : Nat} {H H' : Heap} {m : Net} {x : V} (h : MB B H k3 m x) (h1 : H'[k3]? = H[k3]?) (h2 : ∀ k, x.blk? = some k → H'[k]? = H[k]?) : MB B H' k3 m x := ⟨h.ge, h1.trans h.box, h.own.frame h2, h.ne⟩
theorem rd_of_rdn {H : Heap} {k o n j : Nat} {cs : List V} (h : rdn H k o n = some cs) (hj : j < n) : rd H k (o + j) = cs[j]? := by
  simp only [rdn] at h
  split at h
  · rename_i ds m hb
    split at h
    · cases h
      simp only [rd, hb]
      rw [List.getElem?_take, if_pos hj, List.getElem?_drop]
    · cases h
  · cases h
theorem same_arc {n : Net} {k : Nat} (hk : k < n.arcs.length) (a' : Ar.Arc) (hne : a' ≠ n.arcs[k]) : sameB { n with arcs := n.arcs.set k a' } n = false := sameB_false fun ⟨_, _, _, h⟩ => hne (by
  have := congrArg (fun l : List Ar.Arc => l[k]?) h
  simp only [List.getElem?_set_self hk, List.getElem?_eq_getElem hk] at this
  exact Option.some.inj this)

set_option maxHeartbeats 4000000 in
theorem copies_law {H : Heap} {n : Net} {a : V} {at' w : Int} (hi : NetIn H n a) (hat : 0 ≤ at' ∧ at' ≤ 255) (hw : 0 ≤ w ∧ w ≤ 255) :
    ∃ v H', callL E (.f 7) [NV n a, .int .u8 at', .int .u8 w] H = some (v, H') ∧ v = .bool true := by
  refine call_E rfl nc7 rfl ?_
  unfold gc7
  have h := hi.al
  have hl : lenOf a = some n.arcs.length := Rw.len h
  unfold NV
  refine wa_sr ⟨_, by simp [len_cells hl]; rfl, ?_⟩
  refine wa_cut (fun s => s.H = H ++ [nbox n a] ∧ Rg s.τ [(1, .int .u8 at'), (2, .int .u8 w), (3, .ptr H.length 0), (19, .bool (decide (n.arcs.length = 0) || decide (200 < n.arcs.length)))]) ?_ ?_
  · by_cases h1 : n.arcs.length = 0
    · refine wa_regs ⟨_, by simp -implicitDefEqProofs [hl, h1]; rfl, rfl, ?_⟩
      simp [Rg, h1]
    · have h1' : ((n.arcs.length : Int) == 0) = false := by simpa using h1
      refine wa_regs ⟨_, by simp -implicitDefEqProofs [hl, h1']; rfl, rfl, ?_⟩
      simp [Rg, h1]; omega
  rintro ⟨τ, H2⟩ ⟨hH2, t1, t2, t3, t19, -⟩
  dsimp only at hH2 t1 t2 t3 t19
  subst hH2
  by_cases hbig : n.arcs.length = 0 ∨ 200 < n.arcs.length
  · refine wa_if (t := true) (by simp only [ev]; rw [t19]; simpa using hbig) (fun _ => ?_) (fun h => by cases h)
    refine wa_sr ⟨_, by simp [call_yes (k := 26) rfl]; rfl, ?_⟩
    exact wa_rt ⟨by simp, _, by simp; rfl, rfl⟩
  refine wa_if (t := false) (by simp only [ev]; rw [t19]; simpa using hbig) (fun h => by cases h) (fun _ => ?_)
  have hA := h.app [nbox n a]
  have r3 : ∀ G, rdn (H ++ [nbox n a] ++ G) H.length 0 4 = some [.int .i64 n.N, .int .i64 n.S, .int .i64 n.T, a] := fun G => by simp [nbox]
  have r33 : ∀ G, rd (H ++ [nbox n a] ++ G) H.length 3 = some a := fun G => by simp [nbox]
  have hk3 : H.length < (H ++ [nbox n a]).length := by simp
  have hab : ∀ k, a.blk? = some k → k < (H ++ [nbox n a]).length := Rw.lt hA
  generalize H ++ [nbox n a] = HA at *
  generalize H.length = k3 at *
  -- two copies
  have hA0 := hA.app (List.replicate 2 .dead)
  obtain ⟨x, G1, e1, e2⟩ := pcopy_ok (hide := [HA.length, HA.length + 1]) hA0 hi.sl (by omega) (fun k hk => by have := hab k hk; simp; omega)
  have hA1 := hA0.app G1
  obtain ⟨y, G2, f1, f2⟩ := pcopy_ok (hide := [HA.length, HA.length + 1]) hA1 hi.sl (by omega) (fun k hk => by have := hab k hk; simp; omega)
  have hxs : x.scalar = true := len_scalar (Rw.len e2.al)
  have hys : y.scalar = true := len_scalar (Rw.len f2.al)
  have hxy : ∀ k, x.blk? = some k → HA.length + 2 ≤ k ∧ y.blk? ≠ some k := fun k hk => by
    have h1 := e2.ge k hk
    have h2 := Rw.lt e2.al k hk
    refine ⟨by simpa using h1, fun h3 => ?_⟩
    have := f2.ge k h3
    omega
  have hyk : ∀ k, y.blk? = some k → HA.length + 2 ≤ k := fun k hk => by
    have h1 := f2.ge k hk
    simp at h1; omega
  have hHA0 : HA.length < (HA ++ List.replicate 2 Blk.dead).length := by simp
  have hd0 : (HA ++ List.replicate 2 Blk.dead ++ G1 ++ G2)[HA.length]? = some .dead := by simp
  have hd1 : (HA ++ List.replicate 2 Blk.dead ++ G1 ++ G2)[HA.length + 1]? = some .dead := by simp [List.replicate_succ]
  have hpre : ∀ k, k < HA.length → (HA ++ List.replicate 2 Blk.dead ++ G1 ++ G2)[k]? = HA[k]? := fun k hk => by simp [List.getElem?_append_left, hk]
  have hlen2 : HA.length + 2 ≤ (HA ++ List.replicate 2 Blk.dead ++ G1 ++ G2).length := by simp only [List.length_append, List.length_replicate]; omega
  have hOx : Own3 (HA ++ List.replicate 2 Blk.dead ++ G1 ++ G2) (HA.length + 2) x n.arcs := by
    have := e2.app G2
    simpa using this
  have hOy : Own3 (HA ++ List.replicate 2 Blk.dead ++ G1 ++ G2) (HA.length + 2) y n.arcs := by
    rcases f2 with ⟨h2, h3⟩ | ⟨k, m, h2, h3, h4, h5⟩
    · exact .inl ⟨h2, h3⟩
    · exact .inr ⟨k, m, h2, by simp at h3; omega, h4, h5⟩
  obtain ⟨H1, hH1⟩ : ∃ X, X = HA ++ List.replicate 2 Blk.dead ++ G1 ++ G2 := ⟨_, rfl⟩
  rw [← hH1] at hd0 hd1 hpre hlen2 hOx hOy f1
  have e1' : pcall (callL E) [HA.length, HA.length + 1] (.f 27) [V.agg [.int .i64 n.N, .int .i64 n.S, .int .i64 n.T, a]] (HA ++ [.dead, .dead]) = some (V.agg [.int .i64 n.N, .int .i64 n.S, .int .i64 n.T, x], HA ++ [.dead, .dead] ++ G1) := e1
  have f1' : pcall (callL E) [HA.length, HA.length + 1] (.f 27) [V.agg [.int .i64 n.N, .int .i64 n.S, .int .i64 n.T, a]] (HA ++ [.dead, .dead] ++ G1) = some (V.agg [.int .i64 n.N, .int .i64 n.S, .int .i64 n.T, y], H1) := f1
  obtain ⟨Hb, hHb⟩ : ∃ X, X = HA ++ [Blk.dead, .dead] ++ G1 := ⟨_, rfl⟩
  rw [← hHb] at e1' f1'
  have r3b : rdn Hb k3 0 4 = some [.int .i64 n.N, .int .i64 n.S, .int .i64 n.T, a] := by rw [hHb, List.append_assoc]; exact r3 _
  have r3a : rdn (HA ++ [.dead, .dead]) k3 0 4 = some [.int .i64 n.N, .int .i64 n.S, .int .i64 n.T, a] := r3 _
  -- the two boxes
  let Z : Blk := .cells [.int .i64 0, .int .i64 0, .int .i64 0, .nils] .ex
  have hs1 : (H1.set HA.length Z)[HA.length + 1]? = some .dead := by rw [List.getElem?_set_ne (by omega)]; exact hd1
  obtain ⟨H2, hH2⟩ : ∃ X, X = (H1.set HA.length Z).set (HA.length + 1) Z := ⟨_, rfl⟩
  have hlH2 : H2.length = H1.length := by rw [hH2]; simp
  have k20 : H2[HA.length]? = some Z := by rw [hH2, List.getElem?_set_ne (by omega), List.getElem?_set_self (by omega)]
  have k21 : H2[HA.length + 1]? = some Z := by rw [hH2, List.getElem?_set_self (by simp; omega)]
  have k2o : ∀ k, k ≠ HA.length → k ≠ HA.length + 1 → H2[k]? = H1[k]? := fun k h1 h2 => by rw [hH2, List.getElem?_set_ne (fun e => h2 e.symm), List.getElem?_set_ne (fun e => h1 e.symm)]
  obtain ⟨H3, w3, c3, o3, l3⟩ : ∃ X, wr H2 HA.length 0 [.int .i64 n.N, .int .i64 n.S, .int .i64 n.T, x] = some X ∧ X[HA.length]? = some (nbox n x) ∧ (∀ k, k ≠ HA.length → X[k]? = H2[k]?) ∧ X.length = H2.length :=
    ⟨_, wrAll (vs := [.int .i64 n.N, .int .i64 n.S, .int .i64 n.T, x]) k20 rfl rfl (by simp only [List.all_cons, List.all_nil, hxs]; rfl), List.getElem?_set_self (by omega), fun k hk => List.getElem?_set_ne (fun e => hk e.symm), by simp⟩
  have k31 : H3[HA.length + 1]? = some Z := by rw [o3 _ (by omega)]; exact k21
  obtain ⟨H4, w4, c4, o4, l4⟩ : ∃ X, wr H3 (HA.length + 1) 0 [.int .i64 n.N, .int .i64 n.S, .int .i64 n.T, y] = some X ∧ X[HA.length + 1]? = some (nbox n y) ∧ (∀ k, k ≠ HA.length + 1 → X[k]? = H3[k]?) ∧ X.length = H3.length :=
    ⟨_, wrAll (vs := [.int .i64 n.N, .int .i64 n.S, .int .i64 n.T, y]) k31 rfl rfl (by simp only [List.all_cons, List.all_nil, hys]; rfl), List.getElem?_set_self (by omega), fun k hk => List.getElem?_set_ne (fun e => hk e.symm), by simp⟩
  have hfr : ∀ k, k ≠ HA.length → k ≠ HA.length + 1 → H4[k]? = H1[k]? := fun k h1 h2 => by rw [o4 k h2, o3 k h1, k2o k h1 h2]
  have mx : MB 0 H4 HA.length n x := ⟨Nat.zero_le _, by rw [o4 _ (by omega)]; exact c3, by
    rcases hOx.frame (H' := H4) (fun k hk => hfr k (by have := (hxy k hk).1; omega) (by have := (hxy k hk).1; omega)) with ⟨h2, h3⟩ | ⟨k, m, h2, h3, h4, h5⟩
    · exact .inl ⟨h2, h3⟩
    · exact .inr ⟨k, m, h2, Nat.zero_le _, h4, h5⟩, fun k hk => by have := (hxy k hk).1; omega⟩
  have my : MB 0 H4 (HA.length + 1) n y := ⟨Nat.zero_le _, c4, by
    rcases hOy.frame (H' := H4) (fun k hk => hfr k (by have := hyk k hk; omega) (by have := hyk k hk; omega)) with ⟨h2, h3⟩ | ⟨k, m, h2, h3, h4, h5⟩
    · exact .inl ⟨h2, h3⟩
    · exact .inr ⟨k, m, h2, Nat.zero_le _, h4, h5⟩, fun k hk => by have := hyk k hk; omega⟩
  have hbase : ∀ k, k < HA.length → H4[k]? = HA[k]? := fun k hk => by rw [hfr k (by omega) (by omega), hpre k hk]
  have hH2' : (H1.set HA.length (Blk.cells [.int .i64 0, .int .i64 0, .int .i64 0, .nils] .ex)).set (HA.length + 1) (Blk.cells [.int .i64 0, .int .i64 0, .int .i64 0, .nils] .ex) = H2 := hH2.symm
  refine wa_dw ?_
  refine ⟨_, by
    simp -implicitDefEqProofs [dinsL, dins, newOf, t3, r3a, e1', r3b, f1', hd0, hd1, hH2', w3, w4]
    rfl, ?_, ?_⟩
  · simp [Chk.ok, blk_ptr, t3]; omega
  refine wa_rg [(1, .int .u8 at'), (2, .int .u8 w), (3, .ptr k3 0), (7, .ptr HA.length 0), (8, .ptr (HA.length + 1) 0)] (by simp [Rg, t1, t2, t3]) ?_
  clear hH2' w3 w4 hd0 hd1 e1' f1' k20 k21 k2o k31 c3 o3 c4 o4 hfr hs1 hOx hOy e1 f1 e2 f2 hA0 hA1 r3a r3b hH2 hH1 hHb t1 t2 t3 t19 τ
  rintro τ ⟨t1, t2, t3, t7, t8, -⟩
  dsimp only at t1 t2 t3 t7 t8
  have hA4 : AL H4 a n.arcs := hA.frame fun k hk => hbase k (hab k hk)
  have eb : ∃ G, H4 = HA ++ G := (⟨by omega, hbase, fun p hp => by simp at hp, List.nodup_nil⟩ : Hp HA H4 []).eq
  have r3' : ∀ H', (∀ k, k < HA.length → H'[k]? = HA[k]?) → rdn H' k3 0 4 = some [.int .i64 n.N, .int .i64 n.S, .int .i64 n.T, a] ∧ rd H' k3 3 = some a := fun H' hH' => by
    have h1 := r3 []
    have h2 := r33 []
    rw [List.append_nil] at h1 h2
    simp only [rdn, rd] at h1 h2 ⊢
    rw [hH' k3 hk3]
    exact ⟨h1, h2⟩
  obtain ⟨r34, r334⟩ := r3' H4 hbase
  have hwt : IntKind.i64.wrap at' = at' := w64 (by omega) (by omega)
  have hpos : 0 < n.arcs.length := by omega
  have hne : n.arcs ≠ [] := by intro e; rw [e] at hpos; simp at hpos
  obtain ⟨k, hk, hkl⟩ : ∃ k : Nat, at'.tmod n.arcs.length = k ∧ k < n.arcs.length := by
    have h1 := Int.tmod_lt_of_pos at' (by omega : (0 : Int) < n.arcs.length)
    have h2 : 0 ≤ at'.tmod n.arcs.length := Int.tmod_nonneg _ hat.1
    exact ⟨(at'.tmod n.arcs.length).toNat, by omega, by omega⟩
  have hxl : lenOf x = some n.arcs.length := Rw.len mx.own.al
  have qx3 := mx.rd3 []
  rw [List.append_nil] at qx3
  refine wa_sr ⟨_, by simp -implicitDefEqProofs [t1, t3, r334, hl, hwt, hne, hk]; rfl, ?_⟩
  refine wa_sr ⟨_, by simp -implicitDefEqProofs [t3, t7, r334, qx3, hl, hxl]; rfl, ?_⟩
  refine wa_if (t := false) (by simp) (fun h => by cases h) (fun _ => ?_)
  refine wa_sr ⟨_, by simp [t2]; rfl, ?_⟩
  obtain ⟨u, hu, hu6⟩ : ∃ u : Nat, w.tmod 7 = u ∧ u ≤ 6 := by
    have h1 := Int.tmod_lt_of_pos w (by omega : (0 : Int) < 7)
    have h2 : 0 ≤ w.tmod 7 := Int.tmod_nonneg _ hw.1
    exact ⟨(w.tmod 7).toNat, by omega, by omega⟩
  refine wa_rg [(3, .ptr k3 0), (7, .ptr HA.length 0), (8, .ptr (HA.length + 1) 0), (9, .int .i64 k), (39, .int .u8 u)] (by simp [Rg, t3, t7, t8, hu]) ?_
  clear t1 t2 t3 t7 t8 τ
  rintro τ ⟨t3, t7, t8, t9, t39, -⟩
  dsimp only at t3 t7 t8 t9 t39
  -- one thing is another one
  refine wa_cut (fun s => ∃ (c : Net) (x' : V), sameB c n = false ∧ c.arcs.length ≤ 300 ∧ MB 0 s.H HA.length c x' ∧ MB 0 s.H (HA.length + 1) n y ∧ (∀ k, k < HA.length → s.H[k]? = HA[k]?) ∧ Rg s.τ [(3, .ptr k3 0), (7, .ptr HA.length 0), (8, .ptr (HA.length + 1) 0)]) ?_ ?_
  · refine wa_block ?_
    rcases (by omega : u = 0 ∨ u = 1 ∨ u = 2 ∨ u = 3 ∨ u = 4 ∨ u = 5 ∨ u = 6) with rfl | rfl | rfl | rfl | rfl | rfl | rfl
    · refine wa_sr ⟨_, by simp [t39]; rfl, ?_⟩
      refine wa_cond (t := true) (by simp) (fun _ => ?_) (fun h => by cases h)
      have q0 : rd H4 HA.length 0 = some (.int .i64 n.N) := by simp [rd, mx.box, nbox]
      obtain ⟨H5, w5, m5, o5⟩ : ∃ X, wr H4 HA.length 0 [.int .i64 (IntKind.i64.wrap (n.N + 1))] = some X ∧ MB 0 X HA.length { n with N := IntKind.i64.wrap (n.N + 1) } x ∧ ∀ k, k ≠ HA.length → X[k]? = H4[k]? :=
        ⟨_, wr1 (o := 0) (v := .int .i64 (IntKind.i64.wrap (n.N + 1))) (cs := [.int .i64 n.N, .int .i64 n.S, .int .i64 n.T, x]) mx.box rfl (by simp) rfl, mx.put (m' := { n with N := IntKind.i64.wrap (n.N + 1) }) rfl, fun k hk => List.getElem?_set_ne (fun e => hk e.symm)⟩
      refine wa_regs ⟨_, by simp -implicitDefEqProofs [t7, q0, w5]; rfl, ?_⟩
      exact ⟨{ n with N := IntKind.i64.wrap (n.N + 1) }, x, sameB_false fun h => wrap_ne hi.bN (by simpa using h.1), by simp only; omega, m5, my.frame (o5 _ (by omega)) (fun j hj => o5 j (by have := hyk j hj; omega)), fun j hj => by rw [o5 j (by omega)]; exact hbase j hj, by simp [Rg, t3, t7, t8]⟩
    · refine wa_sr ⟨_, by simp [t39]; rfl, ?_⟩
      refine wa_cond (t := false) (by simp) (fun h => by cases h) (fun _ => ?_)
      refine wa_sr ⟨_, by simp [t39]; rfl, ?_⟩
      refine wa_cond (t := true) (by simp) (fun _ => ?_) (fun h => by cases h)
      have q0 : rd H4 HA.length 1 = some (.int .i64 n.S) := by simp [rd, mx.box, nbox]
      obtain ⟨H5, w5, m5, o5⟩ : ∃ X, wr H4 HA.length 1 [.int .i64 (IntKind.i64.wrap (n.S + 1))] = some X ∧ MB 0 X HA.length { n with S := IntKind.i64.wrap (n.S + 1) } x ∧ ∀ k, k ≠ HA.length → X[k]? = H4[k]? :=
        ⟨_, wr1 (o := 1) (v := .int .i64 (IntKind.i64.wrap (n.S + 1))) (cs := [.int .i64 n.N, .int .i64 n.S, .int .i64 n.T, x]) mx.box rfl (by simp) rfl, mx.put (m' := { n with S := IntKind.i64.wrap (n.S + 1) }) rfl, fun k hk => List.getElem?_set_ne (fun e => hk e.symm)⟩
      refine wa_regs ⟨_, by simp -implicitDefEqProofs [t7, q0, w5]; rfl, ?_⟩
      exact ⟨{ n with S := IntKind.i64.wrap (n.S + 1) }, x, sameB_false fun h => wrap_ne hi.bS (by simpa using h.2.1), by simp only; omega, m5, my.frame (o5 _ (by omega)) (fun j hj => o5 j (by have := hyk j hj; omega)), fun j hj => by rw [o5 j (by omega)]; exact hbase j hj, by simp [Rg, t3, t7, t8]⟩
    · refine wa_sr ⟨_, by simp [t39]; rfl, ?_⟩
      refine wa_cond (t := false) (by simp) (fun h => by cases h) (fun _ => ?_)
      refine wa_sr ⟨_, by simp [t39]; rfl, ?_⟩
      refine wa_cond (t := false) (by simp) (fun h => by cases h) (fun _ => ?_)
      refine wa_sr ⟨_, by simp [t39]; rfl, ?_⟩
      refine wa_cond (t := true) (by simp) (fun _ => ?_) (fun h => by cases h)
      have q0 : rd H4 HA.length 2 = some (.int .i64 n.T) := by simp [rd, mx.box, nbox]
      obtain ⟨H5, w5, m5, o5⟩ : ∃ X, wr H4 HA.length 2 [.int .i64 (IntKind.i64.wrap (n.T + 1))] = some X ∧ MB 0 X HA.length { n with T := IntKind.i64.wrap (n.T + 1) } x ∧ ∀ k, k ≠ HA.length → X[k]? = H4[k]? :=
        ⟨_, wr1 (o := 2) (v := .int .i64 (IntKind.i64.wrap (n.T + 1))) (cs := [.int .i64 n.N, .int .i64 n.S, .int .i64 n.T, x]) mx.box rfl (by simp) rfl, mx.put (m' := { n with T := IntKind.i64.wrap (n.T + 1) }) rfl, fun k hk => List.getElem?_set_ne (fun e => hk e.symm)⟩
      refine wa_regs ⟨_, by simp -implicitDefEqProofs [t7, q0, w5]; rfl, ?_⟩
      exact ⟨{ n with T := IntKind.i64.wrap (n.T + 1) }, x, sameB_false fun h => wrap_ne hi.bT (by simpa using h.2.2.1), by simp only; omega, m5, my.frame (o5 _ (by omega)) (fun j hj => o5 j (by have := hyk j hj; omega)), fun j hj => by rw [o5 j (by omega)]; exact hbase j hj, by simp [Rg, t3, t7, t8]⟩
    · refine wa_sr ⟨_, by simp [t39]; rfl, ?_⟩
      refine wa_cond (t := false) (by simp) (fun h => by cases h) (fun _ => ?_)
      refine wa_sr ⟨_, by simp [t39]; rfl, ?_⟩
      refine wa_cond (t := false) (by simp) (fun h => by cases h) (fun _ => ?_)
      refine wa_sr ⟨_, by simp [t39]; rfl, ?_⟩
      refine wa_cond (t := false) (by simp) (fun h => by cases h) (fun _ => ?_)
      refine wa_sr ⟨_, by simp [t39]; rfl, ?_⟩
      refine wa_cond (t := true) (by simp) (fun _ => ?_) (fun h => by cases h)
      obtain ⟨km, hxe, _, _, hrd, hwr⟩ := mx.arc hkl
      have hrd0 := hrd []
      rw [List.append_nil] at hrd0
      have q0 := rd_of_rdn (j := 0) hrd0 (by omega)
      have hb := (hi.arc _ (List.getElem_mem hkl)).1
      generalize hae : n.arcs[k] = ar at *
      obtain ⟨H5, w5, l5, m5, o5⟩ := hwr 0 (.int .i64 (IntKind.i64.wrap (ar.src + 1))) ⟨IntKind.i64.wrap (ar.src + 1), ar.dst, ar.cap⟩ (by omega) rfl rfl
      simp only [Nat.add_zero, Arc.cells, List.getElem?_cons_zero, List.getElem?_cons_succ] at q0 w5
      refine wa_regs ⟨_, by simp -implicitDefEqProofs [t7, t9, qx3, hxe, hkl, q0, w5]; rfl, ?_⟩
      have hkm := hxy km (by rw [hxe]; rfl)
      refine ⟨_, x, same_arc hkl ⟨IntKind.i64.wrap (ar.src + 1), ar.dst, ar.cap⟩ (fun h => ?_), by simp; omega, m5, my.frame (o5 _ (by omega)) (fun j hj => o5 j (fun e => hkm.2 (by rw [← e]; exact hj))), fun j hj => by rw [o5 j (by omega)]; exact hbase j hj, by simp [Rg, t3, t7, t8]⟩
      rw [hae] at h
      exact wrap_ne hb (congrArg Ar.Arc.src h)
    · refine wa_sr ⟨_, by simp [t39]; rfl, ?_⟩
      refine wa_cond (t := false) (by simp) (fun h => by cases h) (fun _ => ?_)
      refine wa_sr ⟨_, by simp [t39]; rfl, ?_⟩
      refine wa_cond (t := false) (by simp) (fun h => by cases h) (fun _ => ?_)
      refine wa_sr ⟨_, by simp [t39]; rfl, ?_⟩
      refine wa_cond (t := false) (by simp) (fun h => by cases h) (fun _ => ?_)
      refine wa_sr ⟨_, by simp [t39]; rfl, ?_⟩
      refine wa_cond (t := false) (by simp) (fun h => by cases h) (fun _ => ?_)
      refine wa_sr ⟨_, by simp [t39]; rfl, ?_⟩
      refine wa_cond (t := true) (by simp) (fun _ => ?_) (fun h => by cases h)
      obtain ⟨km, hxe, _, _, hrd, hwr⟩ := mx.arc hkl
      have hrd0 := hrd []
      rw [List.append_nil] at hrd0
      have q0 := rd_of_rdn (j := 1) hrd0 (by omega)
      have hb := (hi.arc _ (List.getElem_mem hkl)).2.1
      generalize hae : n.arcs[k] = ar at *
      obtain ⟨H5, w5, l5, m5, o5⟩ := hwr 1 (.int .i64 (IntKind.i64.wrap (ar.dst + 1))) ⟨ar.src, IntKind.i64.wrap (ar.dst + 1), ar.cap⟩ (by omega) rfl rfl
      simp only [Nat.add_zero, Arc.cells, List.getElem?_cons_zero, List.getElem?_cons_succ] at q0 w5
      refine wa_regs ⟨_, by simp -implicitDefEqProofs [t7, t9, qx3, hxe, hkl, q0, w5]; rfl, ?_⟩
      have hkm := hxy km (by rw [hxe]; rfl)
      refine ⟨_, x, same_arc hkl ⟨ar.src, IntKind.i64.wrap (ar.dst + 1), ar.cap⟩ (fun h => ?_), by simp; omega, m5, my.frame (o5 _ (by omega)) (fun j hj => o5 j (fun e => hkm.2 (by rw [← e]; exact hj))), fun j hj => by rw [o5 j (by omega)]; exact hbase j hj, by simp [Rg, t3, t7, t8]⟩
      rw [hae] at h
      exact wrap_ne hb (congrArg Ar.Arc.dst h)
    · refine wa_sr ⟨_, by simp [t39]; rfl, ?_⟩
      refine wa_cond (t := false) (by simp) (fun h => by cases h) (fun _ => ?_)
      refine wa_sr ⟨_, by simp [t39]; rfl, ?_⟩
      refine wa_cond (t := false) (by simp) (fun h => by cases h) (fun _ => ?_)
      refine wa_sr ⟨_, by simp [t39]; rfl, ?_⟩
      refine wa_cond (t := false) (by simp) (fun h => by cases h) (fun _ => ?_)
      refine wa_sr ⟨_, by simp [t39]; rfl, ?_⟩
      refine wa_cond (t := false) (by simp) (fun h => by cases h) (fun _ => ?_)
      refine wa_sr ⟨_, by simp [t39]; rfl, ?_⟩
      refine wa_cond (t := false) (by simp) (fun h => by cases h) (fun _ => ?_)
      refine wa_sr ⟨_, by simp [t39]; rfl, ?_⟩
      refine wa_cond (t := true) (by simp) (fun _ => ?_) (fun h => by cases h)
      obtain ⟨km, hxe, _, _, hrd, hwr⟩ := mx.arc hkl
      have hrd0 := hrd []
      rw [List.append_nil] at hrd0
      have q0 := rd_of_rdn (j := 2) hrd0 (by omega)
      have hb := (hi.arc _ (List.getElem_mem hkl)).2.2
      generalize hae : n.arcs[k] = ar at *
      obtain ⟨H5, w5, l5, m5, o5⟩ := hwr 2 (.int .i64 (IntKind.i64.wrap (ar.cap + 1))) ⟨ar.src, ar.dst, IntKind.i64.wrap (ar.cap + 1)⟩ (by omega) rfl rfl
      simp only [Nat.add_zero, Arc.cells, List.getElem?_cons_zero, List.getElem?_cons_succ] at q0 w5
      refine wa_regs ⟨_, by simp -implicitDefEqProofs [t7, t9, qx3, hxe, hkl, q0, w5]; rfl, ?_⟩
      have hkm := hxy km (by rw [hxe]; rfl)
      refine ⟨_, x, same_arc hkl ⟨ar.src, ar.dst, IntKind.i64.wrap (ar.cap + 1)⟩ (fun h => ?_), by simp; omega, m5, my.frame (o5 _ (by omega)) (fun j hj => o5 j (fun e => hkm.2 (by rw [← e]; exact hj))), fun j hj => by rw [o5 j (by omega)]; exact hbase j hj, by simp [Rg, t3, t7, t8]⟩
      rw [hae] at h
      exact wrap_ne hb (congrArg Ar.Arc.cap h)
    · refine wa_sr ⟨_, by simp [t39]; rfl, ?_⟩
      refine wa_cond (t := false) (by simp) (fun h => by cases h) (fun _ => ?_)
      refine wa_sr ⟨_, by simp [t39]; rfl, ?_⟩
      refine wa_cond (t := false) (by simp) (fun h => by cases h) (fun _ => ?_)
      refine wa_sr ⟨_, by simp [t39]; rfl, ?_⟩
      refine wa_cond (t := false) (by simp) (fun h => by cases h) (fun _ => ?_)
      refine wa_sr ⟨_, by simp [t39]; rfl, ?_⟩
      refine wa_cond (t := false) (by simp) (fun h => by cases h) (fun _ => ?_)
      refine wa_sr ⟨_, by simp [t39]; rfl, ?_⟩
      refine wa_cond (t := false) (by simp) (fun h => by cases h) (fun _ => ?_)
      refine wa_sr ⟨_, by simp [t39]; rfl, ?_⟩
      refine wa_cond (t := false) (by simp) (fun h => by cases h) (fun _ => ?_)
      obtain ⟨x5, H5, p1, p2, p3, p4, p5⟩ := push3 mx.own (Nat.zero_le _) ⟨0, 0, 0⟩ (by omega)
      have hx5s : x5.scalar = true := len_scalar (Rw.len p2.al)
      have b5 : H5[HA.length]? = some (nbox n x) := by rw [p4 _ mx.lt (fun e => mx.ne _ e rfl)]; exact mx.box
      obtain ⟨H6, w6, c6, f6, l6⟩ : ∃ X, wr H5 HA.length 3 [x5] = some X ∧ X[HA.length]? = some (nbox { n with arcs := n.arcs ++ [⟨0, 0, 0⟩] } x5) ∧ (∀ j, j ≠ HA.length → X[j]? = H5[j]?) ∧ X.length = H5.length :=
        ⟨_, wr1 (o := 3) (v := x5) (cs := [.int .i64 n.N, .int .i64 n.S, .int .i64 n.T, x]) b5 rfl (by simp) hx5s, List.getElem?_set_self (List.getElem?_eq_some_iff.1 b5).1, fun j hj => List.getElem?_set_ne (fun e => hj e.symm), by simp⟩
      have p1' : appendv (H4 ++ [.cells [.int .i64 0, .int .i64 0, .int .i64 0] .ex]) 3 24 x (.sl H4.length 0 1 1) = some (x5, H5) := p1
      refine wa_regs ⟨_, by simp -implicitDefEqProofs [t7, qx3, fillc, p1', hx5s, len_cells (Rw.len p2.al), w6]; rfl, ?_⟩
      have hml := mx.lt
      have hmy := my.lt
      have hf : ∀ j, j < H4.length → j ≠ HA.length → x.blk? ≠ some j → H6[j]? = H4[j]? := fun j h1 h2 h3 => by rw [f6 j h2, p4 j h1 h3]
      refine ⟨{ n with arcs := n.arcs ++ [⟨0, 0, 0⟩] }, x5, sameB_false fun h => ?_, by simp; omega, ⟨Nat.zero_le _, c6, p2.frame (fun j hj => f6 j (by have := p5 j hj; omega)), fun j hj => by have := p5 j hj; omega⟩, my.frame (hf _ hmy (by omega) (fun e => by have := (hxy _ e).1; omega)) (fun j hj => hf j (Rw.lt my.own.al j hj) (by have := hyk j hj; omega) (fun e => (hxy j e).2 hj)), fun j hj => by rw [hf j (by omega) (by omega) (fun e => by have := (hxy j e).1; omega)]; exact hbase j hj, by simp [Rg, t3, t7, t8]⟩
      have := congrArg List.length h.2.2.2
      simp at this
  · rintro ⟨τ, H5⟩ ⟨c, x', hs, hcl, mc, md, hb5, u3, u7, u8, -⟩
    dsimp only at mc md hb5 u3 u7 u8
    obtain ⟨r35, _⟩ := r3' H5 hb5
    have hA5 : AL H5 a n.arcs := hA.frame fun k hk => hb5 k (hab k hk)
    obtain ⟨g1, p1⟩ := pc_same (m := c) (n := n) mc.own.al md.own.al (by omega)
    obtain ⟨g2, p2⟩ := pc_same (m := n) (n := c) md.own.al mc.own.al (by omega)
    obtain ⟨g3, p3⟩ := pc_same (m := n) (n := n) md.own.al hA5 (by omega)
    rw [hs] at p1
    rw [sameB_comm, hs] at p2
    rw [sameB_true ⟨rfl, rfl, rfl, rfl⟩] at p3
    have eb5 : ∃ G, H5 = HA ++ G := (⟨by have := mc.lt; omega, hb5, fun p hp => by simp at hp, List.nodup_nil⟩ : Hp HA H5 []).eq
    obtain ⟨G5, hG5⟩ := eb5
    have r35' : ∀ G, rdn (H5 ++ G) k3 0 4 = some [.int .i64 n.N, .int .i64 n.S, .int .i64 n.T, a] := fun G => by rw [hG5, List.append_assoc]; exact r3 _
    have cr := mc.rd
    have dr := md.rd
    have cre := cr []
    have dre := dr []
    have p1e := p1 []
    rw [List.append_nil] at cre dre p1e
    rw [List.nil_append] at p1e
    unfold NV at p1 p2 p3 p1e
    refine wa_sr ⟨_, by simp -implicitDefEqProofs [u3, u7, u8, cre, dre, cr, dr, r35', p1e, p2, p3, call_yes (k := 26) rfl]; rfl, ?_⟩
    exact wa_ret ⟨by simp, _, by simp; rfl, rfl⟩
end Go.Proofs.Ytpojdgeginigjaa
