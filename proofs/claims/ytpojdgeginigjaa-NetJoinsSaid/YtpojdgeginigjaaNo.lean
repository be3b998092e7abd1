/- Join: the walk. -/
import Derived.Test.YtpojdgeginigjaaNn
import Derived.Test.YtpojdgeginigjaaNk
import Derived.Test.YtpojdgeginigjaaNaJ
set_option linter.unusedSimpArgs false
set_option linter.unusedVariables false
namespace Go.Proofs.Ytpojdgeginigjaa
open Go Go.Ar
set_option maxRecDepth 100000

/-- What is joined so far, in memory: in box k4 and row x; the map km; row y. -/
structure JM (HA H : Heap) (n : Net) (k4 km : Nat) (x y : V) (out : List Ar.Arc) (r : List Int) : Prop where
  hp : Hp HA H []
  mb : MB HA.length H k4 { n with arcs := out } x
  own : OwnI H HA.length y r
  mp : H[km]? = some (.mp (mapP 0 out))
  ge : HA.length ≤ km
  ne : k4 ≠ km
  xm : ∀ k, x.blk? = some k → k ≠ km
  y4 : ∀ k, y.blk? = some k → k ≠ k4 ∧ k ≠ km ∧ x.blk? ≠ some k
theorem JM.app {HA H : Heap} {n : Net} {k4 km : Nat} {x y : V} {out : List Ar.Arc} {r : List Int} (h : JM HA H n k4 km x y out r) (G : Heap) : JM HA (H ++ G) n k4 km x y out r :=
  ⟨Hp_app h.hp G, h.mb.app G, h.own.frame fun k hk => List.getElem?_append_left (Rw.lt h.own.il k hk), by rw [List.getElem?_append_left (List.getElem?_eq_some_iff.1 h.mp).1]; exact h.mp, h.ge, h.ne, h.xm, h.y4⟩

theorem keyf_pair (a : Ar.Arc) (out : List Ar.Arc) : keyf .pair (.agg [.int .i64 a.src, .int .i64 a.dst]) (mapP 0 out) = some (match out.findIdx? (fun x => ends x a) with | some p => some (p, .int .i64 (p : Int)) | none => none) := by
  have h := findk_mapP a out 0 0
  unfold keyA at h
  have e : keyf .pair (.agg [.int .i64 a.src, .int .i64 a.dst]) (mapP 0 out) = findk (.agg [.int .i64 a.src, .int .i64 a.dst]) (mapP 0 out) 0 := rfl
  rw [e, h]
  cases out.findIdx? (fun x => ends x a) <;> simp

set_option maxHeartbeats 4000000 in
theorem join_ok {n : Net} {a : V} {H : Heap} (h : AL H a n.arcs) (hs : n.arcs.length ≤ 2 ^ 20) (hc0 : chk n = 0) (hcb : ∀ i, ∀ hi : i < n.arcs.length, ∀ p, ∀ hp : p < (joinL (n.arcs.take i)).1.length, 0 ≤ ((joinL (n.arcs.take i)).1[p]).cap ∧ 0 ≤ n.arcs[i].cap ∧ ((joinL (n.arcs.take i)).1[p]).cap + n.arcs[i].cap ≤ big) :
    ∃ x y H', callL E (.f 40) [NV n a] H = some (.tup [NV (joinN n) x, y], H') ∧ (∃ G, H' = H ++ G) ∧ Own3 H' H.length x (joinN n).arcs ∧ OwnI H' H.length y (joinL n.arcs).2 ∧ ∀ k, y.blk? = some k → x.blk? ≠ some k := by
  have key : ∃ v H', callL E (.f 40) [NV n a] H = some (v, H') ∧ ∃ x y, v = .tup [NV (joinN n) x, y] ∧ (∃ G, H' = H ++ G) ∧ Own3 H' H.length x (joinN n).arcs ∧ OwnI H' H.length y (joinL n.arcs).2 ∧ ∀ k, y.blk? = some k → x.blk? ≠ some k := by
    refine call_E rfl nc40 rfl ?_
    unfold gc40
    have hl : lenOf a = some n.arcs.length := Rw.len h
    unfold NV
    refine wa_sr ⟨_, by simp [len_cells hl]; rfl, ?_⟩
    have hA := h.app [nbox n a, .cells [.int .i64 0, .int .i64 0, .int .i64 0, .nils] .ex]
    have hpH := Hp.app H [nbox n a, .cells [.int .i64 0, .int .i64 0, .int .i64 0, .nils] .ex]
    have hk0 : (H ++ [nbox n a, .cells [.int .i64 0, .int .i64 0, .int .i64 0, .nils] .ex])[H.length]? = some (nbox n a) := by simp
    have hk1 : (H ++ [nbox n a, .cells [.int .i64 0, .int .i64 0, .int .i64 0, .nils] .ex])[H.length + 1]? = some (.cells [.int .i64 0, .int .i64 0, .int .i64 0, .nils] .ex) := by simp
    have hlA : (H ++ [nbox n a, .cells [.int .i64 0, .int .i64 0, .int .i64 0, .nils] .ex]).length = H.length + 2 := by simp
    change WP E _ ⟨_, H ++ [nbox n a, .cells [.int .i64 0, .int .i64 0, .int .i64 0, .nils] .ex]⟩ _
    generalize H ++ [nbox n a, .cells [.int .i64 0, .int .i64 0, .int .i64 0, .nils] .ex] = HA at *
    generalize hkb : H.length = kb at *
    obtain ⟨G1, hck⟩ := (pc_check hA (by omega)).run
    rw [hc0] at hck
    unfold NV at hck
    have b1 : rdn HA kb 0 4 = some [.int .i64 n.N, .int .i64 n.S, .int .i64 n.T, a] := by simp [rdn, hk0, nbox]
    refine wa_sr ⟨_, by simp -implicitDefEqProofs [b1, hck]; rfl, ?_⟩
    refine wa_if (t := false) (by simp) (fun h => by cases h) (fun _ => ?_)
    have hp1 : Hp HA (HA ++ G1) [] := Hp.app _ _
    generalize HA ++ G1 = H1 at *
    have c0 : H1[kb]? = some (nbox n a) := by rw [hp1.old kb (by omega)]; exact hk0
    have q0 : rd H1 kb 0 = some (.int .i64 n.N) := by simp [rd, c0, nbox]
    have q1 : rd H1 kb 1 = some (.int .i64 n.S) := by simp [rd, c0, nbox]
    have q2 : rd H1 kb 2 = some (.int .i64 n.T) := by simp [rd, c0, nbox]
    have q3 : ∀ G, rd (H1 ++ G) kb 3 = some a := fun G => by
      simp only [rd]
      rw [List.getElem?_append_left (by have := hp1.le; omega), c0]; rfl
    have hp1l := hp1.le
    refine wa_sr ⟨_, by simp -implicitDefEqProofs [q0, q1, q2, fillc]; rfl, ?_⟩
    refine wa_sr ⟨_, by simp; rfl, ?_⟩
    refine wa_sr ⟨_, by simp; rfl, ?_⟩
    refine wa_sr ⟨_, by simp -implicitDefEqProofs [q3, hl]; rfl, ?_⟩
    have hJ0 : JM HA (H1 ++ [nbox { n with arcs := [] } .nils, .mp []]) n H1.length (H1.length + 1) .nils .nils [] [] :=
      ⟨Hp_app hp1 _, ⟨hp1.le, by simp, .inl ⟨rfl, rfl⟩, fun k hk => by simp [V.blk?] at hk⟩, .inl ⟨rfl, rfl⟩, by simp [mapP], by omega, by omega, fun k hk => by simp [V.blk?] at hk, fun k hk => by simp [V.blk?] at hk⟩
    change WP E _ ⟨_, H1 ++ [nbox { n with arcs := [] } .nils, .mp []]⟩ _
    generalize H1 ++ [nbox { n with arcs := [] } .nils, .mp []] = H2 at *
    generalize H1.length = k4 at *
    generalize k4 + 1 = km at *
    refine wa_cut (fun s => s.τ 2 = .ptr (kb + 1) 0 ∧ s.τ 4 = .ptr k4 0 ∧ ∃ x y, s.τ 6 = y ∧ JM HA s.H n k4 km x y (joinL n.arcs).1 (joinL n.arcs).2) ?_ ?_
    · refine wa_for (n := n.arcs.length) (fun i (y : V × V) => [(2, .ptr (kb + 1) 0), (4, .ptr k4 0), (5, .map km), (6, y.2), (25, a)]) (fun i y H' => JM HA H' n k4 km y.1 y.2 (joinL (n.arcs.take i)).1 (joinL (n.arcs.take i)).2) (.nils, .nils)
        (by decide) (fun i hi => w64 (by omega) (by omega)) (by simp) (by simp) (by simp [Rg]) (by simpa [joinL] using hJ0) (by simp) ?_ ?_
      · rintro i ⟨x, y⟩ τ H3 hi t27 t26 ⟨t2, t4, t5, t6, t25, -⟩ hJ
        dsimp only [ev] at *
        have hcap := hcb i hi
        have hji := ji_take n.arcs i (by omega)
        have hrl : (joinL (n.arcs.take i)).2.length ≤ 2 ^ 20 := by rw [hji.len]; simp; omega
        have hstep : joinL (n.arcs.take (i + 1)) = jstep (joinL (n.arcs.take i)) n.arcs[i] := by
          rw [List.take_add_one, List.getElem?_eq_getElem hi]; exact joinL_snoc _ _
        rw [hstep]
        have hol : (joinL (n.arcs.take i)).1.length ≤ 2 ^ 20 := by have := hji.le; simp at this; omega
        generalize hst : joinL (n.arcs.take i) = st at *
        obtain ⟨out, r⟩ := st
        dsimp only at *
        obtain ⟨ka, o, cc, hae, _, _, hrd⟩ := AL.at (hJ.hp.rw hA : AL H3 a n.arcs) hi
        generalize n.arcs[i] = ar at *
        unfold Arc.cells at hrd
        refine wa_sr ⟨_, by simp -implicitDefEqProofs [t25, t27, hae, hi, hrd]; rfl, ?_⟩
        refine wa_sr ⟨_, by simp -implicitDefEqProofs [fillc]; rfl, ?_⟩
        have hJ2 := hJ.app [.cells ar.cells .ex, .cells [.int .i64 ar.src, .int .i64 ar.dst] .ex]
        have k8 : ∀ G o, rd (H3 ++ [.cells ar.cells .ex, .cells [.int .i64 ar.src, .int .i64 ar.dst] .ex] ++ G) H3.length o = ar.cells[o]? := fun G o => by simp
        have k8' : ∀ G, rdn (H3 ++ [.cells ar.cells .ex, .cells [.int .i64 ar.src, .int .i64 ar.dst] .ex] ++ G) H3.length 0 3 = some ar.cells := fun G => by simp [Arc.cells]
        have k9 : ∀ G, rdn (H3 ++ [.cells ar.cells .ex, .cells [.int .i64 ar.src, .int .i64 ar.dst] .ex] ++ G) (H3.length + 1) 0 2 = some [.int .i64 ar.src, .int .i64 ar.dst] := fun G => by simp
        change WP E _ ⟨_, H3 ++ [.cells ar.cells .ex, .cells [.int .i64 ar.src, .int .i64 ar.dst] .ex]⟩ _
        have hl3 : (H3 ++ [Blk.cells ar.cells .ex, .cells [.int .i64 ar.src, .int .i64 ar.dst] .ex]).length = H3.length + 2 := by simp
        have h4lt := hJ.mb.lt
        have hxlt : ∀ k, x.blk? = some k → k < H3.length := Rw.lt hJ.mb.own.al
        have hmlt := (List.getElem?_eq_some_iff.1 hJ.mp).1
        generalize H3 ++ [Blk.cells ar.cells .ex, .cells [.int .i64 ar.src, .int .i64 ar.dst] .ex] = H4 at *
        generalize hk8 : H3.length = k8n at *
        have k9e := k9 []
        have k8e0 := k8 [] 0
        have k8e1 := k8 [] 1
        have k8e2 := k8 [] 2
        rw [List.append_nil] at k9e k8e0 k8e1 k8e2
        simp only [Arc.cells, List.getElem?_cons_zero, List.getElem?_cons_succ] at k8e0 k8e1 k8e2
        have hmo : mapOf H4 (.map km) = some (mapP 0 out) := by simp [mapOf, mpAt, hJ2.mp]
        have hma : mpAt H4 km = some (mapP 0 out) := by simp [mpAt, hJ2.mp]
        have hkf := keyf_pair ar out
        have hx4 := hJ2.mb.rd3 []
        rw [List.append_nil] at hx4
        have hxl : lenOf x = some out.length := Rw.len hJ2.mb.own.al
        -- what is told of this arc
        refine wa_cut (fun s => s.H = H4 ∧ ∃ v : Int, Rg s.τ [(2, .ptr (kb + 1) 0), (4, .ptr k4 0), (5, .map km), (6, y), (25, a), (27, .int .i64 i), (26, .int .i64 n.arcs.length), (8, .ptr k8n 0), (9, .ptr (k8n + 1) 0), (10, .int .i64 v), (11, .bool (out.findIdx? fun x => ends x ar).isSome)] ∧ ∀ p, out.findIdx? (fun x => ends x ar) = some p → v = p) ?_ ?_
        · cases hfi : out.findIdx? (fun x => ends x ar) with
          | none =>
            rw [hfi] at hkf
            refine wa_regs ⟨_, by simp -implicitDefEqProofs [t5, k9e, hmo, hkf]; rfl, rfl, 0, by simp [Rg, t2, t4, t5, t6, t25, t27, t26, hae], fun p hp => by cases hp⟩
          | some p =>
            rw [hfi] at hkf
            refine wa_regs ⟨_, by simp -implicitDefEqProofs [t5, k9e, hmo, hkf]; rfl, rfl, p, by simp [Rg, t2, t4, t5, t6, t25, t27, t26, hae], fun q hq => by cases hq; rfl⟩
        clear t2 t4 t5 t6 t25 t27 t26 τ
        rintro ⟨τ, H4'⟩ ⟨hH4, v, ⟨t2, t4, t5, t6, t25, t27, t26, t8, t9, t10, t11, -⟩, hv⟩
        dsimp only at hH4 t2 t4 t5 t6 t25 t27 t26 t8 t9 t10 t11
        subst H4'
        refine wa_cut (fun s => ∃ (x' : V) (k : Int), (jstep (out, r) ar).2 = r ++ [k] ∧ JM HA s.H n k4 km x' y (jstep (out, r) ar).1 r ∧ Rg s.τ [(2, .ptr (kb + 1) 0), (4, .ptr k4 0), (5, .map km), (6, y), (25, a), (27, .int .i64 i), (26, .int .i64 n.arcs.length), (10, .int .i64 k)]) ?_ ?_
        · refine wa_block ?_
          refine wa_sr ⟨_, by simp -implicitDefEqProofs [t8, k8e0, k8e1]; rfl, ?_⟩
          by_cases hloop : ar.src = ar.dst
          · refine wa_cond (t := true) (by simp [hloop]) (fun _ => ?_) (fun h => by cases h)
            refine wa_regs ⟨_, by simp; rfl, ?_⟩
            have hj : jstep (out, r) ar = (out, r ++ [-1]) := by unfold jstep; rw [if_pos hloop]
            rw [hj]
            exact ⟨x, -1, rfl, hJ2, by simp [Rg, t2, t4, t5, t6, t25, t27, t26]⟩
          · have hloop' : (ar.src == ar.dst) = false := by simpa using hloop
            refine wa_cond (t := false) (by simp [hloop']) (fun h => by cases h) (fun _ => ?_)
            cases hfi : out.findIdx? (fun x => ends x ar) with
            | some p =>
              rw [hfi] at t11
              obtain rfl := hv p hfi
              have hfi' := hfi
              rw [List.findIdx?_eq_some_iff_getElem] at hfi'
              obtain ⟨hpl, _, _⟩ := hfi'
              have hgd : out.getD p z3 = out[p] := by rw [List.getD_eq_getElem?_getD, List.getElem?_eq_getElem hpl]; rfl
              have hj : jstep (out, r) ar = (out.set p (plus out[p] ar), r ++ [(p : Int)]) := by unfold jstep; rw [if_neg hloop]; simp only [hfi, hgd]
              rw [hj]
              obtain ⟨c1, c2, c3⟩ := hcap p hpl
              unfold big at c3
              have hw : IntKind.i64.wrap (out[p].cap + ar.cap) = out[p].cap + ar.cap := w64 (by omega) (by omega)
              obtain ⟨kx, hxe, _, hkxl, hrx, hwx⟩ := hJ2.mb.arc (i := p) hpl
              have hrx0 := hrx []
              rw [List.append_nil] at hrx0
              have g0 := rd_of_rdn (j := 2) hrx0 (by omega)
              simp only [Arc.cells, List.getElem?_cons_zero, List.getElem?_cons_succ] at g0
              obtain ⟨H5, w5, l5, m5, o5⟩ := hwx 2 (.int .i64 (out[p].cap + ar.cap)) (plus out[p] ar) (by omega) rfl rfl
              refine wa_sr ⟨_, by simp [t11]; rfl, ?_⟩
              refine wa_cond (t := true) (by simp) (fun _ => ?_) (fun h => by cases h)
              refine wa_dreg (s' := _) (by
                simp -implicitDefEqProofs [dinsL, dins, t4, t8, t10, hx4, hxe, hpl, g0, k8e2, hw, w5]
                rfl) (by simp) ?_
              have hkx := hJ2.xm kx (by rw [hxe]; rfl)
              refine ⟨x, p, rfl, ⟨Hp_frame hJ2.hp l5 o5 (hJ2.mb.own.ge kx (by rw [hxe]; rfl)), m5, hJ2.own.frame fun k hk => o5 k (fun e => (hJ2.y4 k hk).2.2 (by rw [e, hxe]; rfl)), ?_, hJ2.ge, hJ2.ne, hJ2.xm, hJ2.y4⟩, by simp [Rg, t2, t4, t5, t6, t25, t27, t26, t10, hxe]⟩
              show H5[km]? = some (.mp (mapP 0 (out.set p (plus out[p] ar))))
              rw [mapP_set out p 0 (plus out[p] ar) hpl rfl, o5 km (fun e => hkx e.symm)]
              exact hJ2.mp
            | none =>
              rw [hfi] at t11 hkf
              have hj : jstep (out, r) ar = (out ++ [ar], r ++ [(out.length : Int)]) := by unfold jstep; rw [if_neg hloop]; simp only [hfi]
              rw [hj]
              refine wa_sr ⟨_, by simp [t11]; rfl, ?_⟩
              refine wa_cond (t := false) (by simp) (fun h => by cases h) (fun _ => ?_)
              refine wa_sr ⟨_, by simp -implicitDefEqProofs [t4, hx4, hxl]; rfl, ?_⟩
              have hkml := (List.getElem?_eq_some_iff.1 hJ2.mp).1
              obtain ⟨H5, hH5, m5, o5, l5⟩ : ∃ X, H4.set km (.mp (mapP 0 out ++ [(.agg [.int .i64 ar.src, .int .i64 ar.dst], .int .i64 (out.length : Int))])) = X ∧ X[km]? = some (.mp (mapP 0 (out ++ [ar]))) ∧ (∀ k, k ≠ km → X[k]? = H4[k]?) ∧ X.length = H4.length :=
                ⟨_, rfl, by rw [List.getElem?_set_self hkml, mapP_snoc]; simp [keyA], fun k hk => List.getElem?_set_ne (fun e => hk e.symm), by simp⟩
              refine wa_sr ⟨_, by simp -implicitDefEqProofs [t5, t9, k9e, hma, hkf, hH5]; rfl, ?_⟩
              have hne := hJ2.ne
              have M5 : MB HA.length H5 k4 { n with arcs := out } x := hJ2.mb.frame (o5 _ hne) (fun j hj => o5 j (hJ2.xm j hj))
              have hp5 := Hp_frame hJ2.hp l5 o5 hJ2.ge
              have q35 := M5.rd3 []
              have k85 : rdn H5 k8n 0 3 = some [.int .i64 ar.src, .int .i64 ar.dst, .int .i64 ar.cap] := by
                have := k8' []
                rw [List.append_nil] at this
                simp only [rdn] at this ⊢
                rw [o5 k8n (by omega)]; exact this
              rw [List.append_nil] at q35
              obtain ⟨x5, H6, p1, p2, p3, p4, p5⟩ := push3 M5.own hp5.le ar hol
              have hx5s : x5.scalar = true := len_scalar (Rw.len p2.al)
              have h4l := M5.lt
              have b6 : H6[k4]? = some (nbox { n with arcs := out } x) := by rw [p4 k4 h4l (fun e => M5.ne k4 e rfl)]; exact M5.box
              obtain ⟨H7, w7, c7, f7, l7⟩ : ∃ X, wr H6 k4 3 [x5] = some X ∧ X[k4]? = some (nbox { n with arcs := out ++ [ar] } x5) ∧ (∀ j, j ≠ k4 → X[j]? = H6[j]?) ∧ X.length = H6.length :=
                ⟨_, wr1 (o := 3) (v := x5) (cs := [.int .i64 n.N, .int .i64 n.S, .int .i64 n.T, x]) b6 rfl (by simp) hx5s, List.getElem?_set_self (List.getElem?_eq_some_iff.1 b6).1, fun j hj => List.getElem?_set_ne (fun e => hj e.symm), by simp⟩
              have p1' : appendv (H5 ++ [.cells [.int .i64 ar.src, .int .i64 ar.dst, .int .i64 ar.cap] .ex]) 3 24 x (.sl H5.length 0 1 1) = some (x5, H6) := p1
              refine wa_regs ⟨_, by simp -implicitDefEqProofs [t4, t8, q35, k85, fillc, p1', hx5s, len_cells (Rw.len p2.al), w7]; rfl, ?_⟩
              have hge := hJ2.mb.ge
              have hple := hp5.le
              have hf : ∀ j, j < H5.length → j ≠ k4 → x.blk? ≠ some j → H7[j]? = H5[j]? := fun j h1 h2 h3 => by rw [f7 j h2, p4 j h1 h3]
              refine ⟨x5, out.length, rfl, ⟨⟨by simp only; omega, fun j hj => ?_, fun q hq => by simp at hq, List.nodup_nil⟩, ⟨hge, c7, p2.frame (fun j hj => f7 j (by have := p5 j hj; omega)), fun j hj => by have := p5 j hj; omega⟩, hJ2.own.frame fun j hj => ?_, ?_, hJ2.ge, hne, fun j hj => by have := p5 j hj; omega, fun j hj => ⟨(hJ2.y4 j hj).1, (hJ2.y4 j hj).2.1, fun e => ?_⟩⟩, by simp [Rg, t2, t4, t5, t6, t25, t27, t26]⟩
              · rw [hf j (by omega) (by omega) (fun e => by have := M5.own.ge j e; omega)]
                exact hp5.old j hj
              · have hjl := Rw.lt hJ2.own.il j hj
                rw [hf j (by omega) (hJ2.y4 j hj).1 (hJ2.y4 j hj).2.2, o5 j (hJ2.y4 j hj).2.1]
              · show H7[km]? = _
                rw [hf km (by omega) (fun e => hne e.symm) (fun e => hJ2.xm km e rfl)]
                exact m5
              · have h1 := p5 j e
                have h2 := Rw.lt hJ2.own.il j hj
                omega
        · rintro ⟨τ, H5⟩ ⟨x', k, hj2, hJ5, t2, t4, t5, t6, t25, t27, t26, t10, -⟩
          dsimp only at hJ5 t2 t4 t5 t6 t25 t27 t26 t10
          obtain ⟨y', H6, p1, p2, p3, p4, p5⟩ := pushI hJ5.own hJ5.hp.le k hrl
          refine wa_regs ⟨_, by simp -implicitDefEqProofs [t6, t10, fillc, p1]; rfl, ?_⟩
          have g4 := hJ5.mb.lt
          have gm := (List.getElem?_eq_some_iff.1 hJ5.mp).1
          have hle := hJ5.hp.le
          refine ⟨by simp [t27], by simp [t26], (x', y'), by simp [Rg, t2, t4, t5, t25], ?_⟩
          simp only [hj2]
          refine ⟨⟨by omega, fun j hj => ?_, fun q hq => by simp at hq, List.nodup_nil⟩, hJ5.mb.frame (p4 _ g4 (fun e => (hJ5.y4 _ e).1 rfl)) (fun j hj => p4 j (Rw.lt hJ5.mb.own.al j hj) (fun e => (hJ5.y4 j e).2.2 hj)), p2, ?_, hJ5.ge, hJ5.ne, hJ5.xm, fun j hj => ?_⟩
          · rw [p4 j (by omega) (fun e => by have := (hJ5.own.il); rcases hJ5.own with ⟨h1, _⟩ | ⟨q, h1, h2, _⟩ <;> rw [h1] at e <;> simp [V.blk?] at e; omega)]
            exact hJ5.hp.old j hj
          · rw [p4 km gm (fun e => (hJ5.y4 _ e).2.1 rfl)]; exact hJ5.mp
          · have := p5 j hj
            exact ⟨by omega, by omega, fun e => by have := Rw.lt hJ5.mb.own.al j e; omega⟩
      · rintro ⟨x, y⟩ τ H3 ⟨t2, t4, t5, t6, t25, -⟩ hJ
        rw [List.take_length] at hJ
        exact ⟨t2, t4, x, y, t6, hJ⟩
    · rintro ⟨τ, H3⟩ ⟨t2, t4, x, y, t6, hJ⟩
      dsimp only at t2 t4 t6 hJ
      have hr4 := hJ.mb.rd []
      rw [List.append_nil] at hr4
      have hxs : x.scalar = true := len_scalar (Rw.len hJ.mb.own.al)
      have hk15 : H3[kb + 1]? = some (.cells [.int .i64 0, .int .i64 0, .int .i64 0, .nils] .ex) := by rw [hJ.hp.old (kb + 1) (by omega)]; exact hk1
      have hk15l := (List.getElem?_eq_some_iff.1 hk15).1
      obtain ⟨H6, w6, hk6, hf6, hl6⟩ : ∃ X, wr H3 (kb + 1) 0 [.int .i64 n.N, .int .i64 n.S, .int .i64 n.T, x] = some X ∧ X[kb + 1]? = some (nbox (joinN n) x) ∧ (∀ k, k ≠ kb + 1 → X[k]? = H3[k]?) ∧ X.length = H3.length :=
        ⟨_, wrAll (vs := [.int .i64 n.N, .int .i64 n.S, .int .i64 n.T, x]) hk15 rfl rfl (by simp only [List.all_cons, List.all_nil, hxs]; rfl), List.getElem?_set_self hk15l, fun k hk => List.getElem?_set_ne (fun e => hk e.symm), by simp⟩
      refine wa_sr ⟨_, by simp -implicitDefEqProofs [t2, t4, t6, hr4, w6]; rfl, ?_⟩
      have hr6 : rdn H6 (kb + 1) 0 4 = some [.int .i64 n.N, .int .i64 n.S, .int .i64 n.T, x] := by simp [rdn, hk6, nbox, joinN]
      have hp7 : Hp H H3 [] := hpH.x hJ.hp
      refine wa_ret ⟨by simp, _, by simp -implicitDefEqProofs [t2, hr6]; rfl, x, y, rfl, ?_, ?_, ?_, fun k hk => (hJ.y4 k hk).2.2⟩
      · exact (Hp_frame hp7 hl6 hf6 (by omega)).eq
      · have : Own3 H6 HA.length x (joinN n).arcs := hJ.mb.own.frame fun k hk => hf6 k (by have := hJ.mb.own.ge k hk; omega)
        rcases this with ⟨h2, h3⟩ | ⟨k, m, h2, h3, h4, h5⟩
        · exact .inl ⟨h2, h3⟩
        · exact .inr ⟨k, m, h2, by omega, h4, h5⟩
      · have : OwnI H6 HA.length y (joinL n.arcs).2 := by
          rcases hJ.own with ⟨h2, h3⟩ | ⟨k, h2, h3, h4⟩
          · exact .inl ⟨h2, h3⟩
          · exact .inr ⟨k, h2, h3, by rw [hf6 k (by omega)]; exact h4⟩
        rcases this with ⟨h2, h3⟩ | ⟨k, h2, h3, h4⟩
        · exact .inl ⟨h2, h3⟩
        · exact .inr ⟨k, h2, by omega, h4⟩
  obtain ⟨v, H', h, x, y, rfl, h2, h3, h4, h5⟩ := key
  exact ⟨x, y, H', h, h2, h3, h4, h5⟩
end Go.Proofs.Ytpojdgeginigjaa
