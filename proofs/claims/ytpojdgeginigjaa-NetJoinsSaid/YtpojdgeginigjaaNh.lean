/- Nets, turned: the walk; sums of capacities. -/
import Derived.Test.YtpojdgeginigjaaNg
set_option linter.unusedSimpArgs false
set_option linter.unusedVariables false
namespace Go.Proofs.Ytpojdgeginigjaa
open Go Go.Ar
set_option maxRecDepth 100000

theorem Hp_frame {H0 H H' : Heap} (h : Hp H0 H []) {k : Nat} (hl : H'.length = H.length) (hf : ∀ k', k' ≠ k → H'[k']? = H[k']?) (hk : H0.length ≤ k) : Hp H0 H' [] :=
  ⟨by rw [hl]; exact h.le, fun j hj => by rw [hf j (by omega)]; exact h.old j hj, fun p hp => by simp at hp, List.nodup_nil⟩
theorem Hp_set {H0 H : Heap} (h : Hp H0 H []) {k : Nat} (hk : H0.length ≤ k) (b : Blk) : Hp H0 (H.set k b) [] := Hp_frame h (k := k) (by simp) (fun k' hk' => List.getElem?_set_ne (fun e => hk' e.symm)) hk
theorem Hp_app {H0 H : Heap} (h : Hp H0 H []) (G : Heap) : Hp H0 (H ++ G) [] := h.x (Hp.app H G)

set_option maxHeartbeats 1000000 in
theorem turn_ok {n : Net} {a : V} {H : Heap} (h : AL H a n.arcs) (hx : Sl a) (hs : n.arcs.length ≤ 2 ^ 20) : ∃ x H', callL E (.f 44) [NV n a] H = some (NV (turn n) x, H') ∧ (∃ G, H' = H ++ G) ∧ Own3 H' H.length x (turn n).arcs := by
  have key : ∃ v H', callL E (.f 44) [NV n a] H = some (v, H') ∧ ∃ x, v = NV (turn n) x ∧ (∃ G, H' = H ++ G) ∧ Own3 H' H.length x (turn n).arcs := by
    refine call_E rfl nc44 rfl ?_
    unfold gc44
    have hl : lenOf a = some n.arcs.length := Rw.len h
    have hA := h.app [nbox n a, .cells [.int .i64 0, .int .i64 0, .int .i64 0, .nils] .ex]
    have hpH := Hp.app H [nbox n a, .cells [.int .i64 0, .int .i64 0, .int .i64 0, .nils] .ex]
    have hk0 : (H ++ [nbox n a, .cells [.int .i64 0, .int .i64 0, .int .i64 0, .nils] .ex])[H.length]? = some (nbox n a) := by simp
    have hk1 : (H ++ [nbox n a, .cells [.int .i64 0, .int .i64 0, .int .i64 0, .nils] .ex])[H.length + 1]? = some (.cells [.int .i64 0, .int .i64 0, .int .i64 0, .nils] .ex) := by simp
    have hlA : (H ++ [nbox n a, .cells [.int .i64 0, .int .i64 0, .int .i64 0, .nils] .ex]).length = H.length + 2 := by simp
    unfold NV
    refine wa_sr ⟨_, by simp [len_cells hl]; rfl, ?_⟩
    change WP E _ ⟨_, H ++ [nbox n a, .cells [.int .i64 0, .int .i64 0, .int .i64 0, .nils] .ex]⟩ _
    generalize H ++ [nbox n a, .cells [.int .i64 0, .int .i64 0, .int .i64 0, .nils] .ex] = HA at *
    generalize hkb : H.length = kb at *
    obtain ⟨x, H1, c1, ⟨G1, hG1⟩, c3⟩ := copy_ok hA hx hs
    unfold NV at c1
    have hxs : x.scalar = true := len_scalar (Rw.len c3.al)
    have b1 : rdn HA kb 0 4 = some [.int .i64 n.N, .int .i64 n.S, .int .i64 n.T, a] := by simp [rdn, hk0, nbox]
    refine wa_sr ⟨_, by simp -implicitDefEqProofs [b1, c1, hxs]; rfl, ?_⟩
    have hp1 : Hp HA H1 [] := by rw [hG1]; exact Hp.app _ _
    have hp2 := Hp_app hp1 [nbox n x]
    have hm0 : MB HA.length (H1 ++ [nbox n x]) H1.length n x := ⟨by rw [hG1]; simp, by simp, (c3.app _), fun k hk => by have := Rw.lt c3.al k hk; omega⟩
    change WP E _ ⟨_, H1 ++ [nbox n x]⟩ _
    generalize H1 ++ [nbox n x] = H2 at *
    generalize hk3 : H1.length = k3 at *
    have hk3B := hm0.ge
    have g1 : rd H2 kb 2 = some (.int .i64 n.T) := by simp [rd, hp2.old kb (by omega), hk0, nbox]
    have g2 : rd H2 kb 1 = some (.int .i64 n.S) := by simp [rd, hp2.old kb (by omega), hk0, nbox]
    have g3 : rd H2 kb 3 = some a := by simp [rd, hp2.old kb (by omega), hk0, nbox]
    obtain ⟨H3, w3, hm3, hp3⟩ : ∃ X, wr H2 k3 1 [.int .i64 n.T] = some X ∧ MB HA.length X k3 { n with S := n.T } x ∧ Hp HA X [] :=
      ⟨_, wr1 (o := 1) (v := .int .i64 n.T) (cs := [.int .i64 n.N, .int .i64 n.S, .int .i64 n.T, x]) hm0.box rfl (by simp) rfl, hm0.put (m' := { n with S := n.T }) rfl, Hp_set hp2 hk3B _⟩
    obtain ⟨H4, w4, hm4, hp4⟩ : ∃ X, wr H3 k3 2 [.int .i64 n.S] = some X ∧ MB HA.length X k3 { n with S := n.T, T := n.S } x ∧ Hp HA X [] :=
      ⟨_, wr1 (o := 2) (v := .int .i64 n.S) (cs := [.int .i64 n.N, .int .i64 n.T, .int .i64 n.T, x]) hm3.box rfl (by simp) rfl, hm3.put (m' := { n with S := n.T, T := n.S }) rfl, Hp_set hp3 hk3B _⟩
    have hne : kb ≠ k3 := by omega
    refine wa_seq (wa_dreg (s' := _) (by
      simp -implicitDefEqProofs [dinsL, dins, g1, g2, w3, w4]
      rfl) (by simp [Chk.ok, V.blk?, hne]) ?_)
    have g4 : rd H4 kb 3 = some a := by simp [rd, hp4.old kb (by omega), hk0, nbox]
    refine wa_sr ⟨_, by simp -implicitDefEqProofs [g4, hl]; rfl, ?_⟩
    refine wa_cut (fun s => s.τ 2 = .ptr (kb + 1) 0 ∧ s.τ 3 = .ptr k3 0 ∧ MB HA.length s.H k3 (turn n) x ∧ Hp HA s.H []) ?_ ?_
    · refine wa_for (n := n.arcs.length) (fun j (_ : Unit) => [(2, .ptr (kb + 1) 0), (3, .ptr k3 0), (15, a)]) (fun j _ H' => MB HA.length H' k3 { n with S := n.T, T := n.S, arcs := mixL flip n.arcs j } x ∧ Hp HA H' []) ()
        (by decide) (fun i hi => w64 (by omega) (by omega)) (by simp) (by simp) (by simp [Rg]) ⟨by simpa [mixL] using hm4, hp4⟩ (by simp) ?_ ?_
      · rintro j _ τ H5 hj t17 t16 ⟨t2, t3, t15, -⟩ ⟨hM5, hp5⟩
        dsimp only [ev] at *
        have hA5 : AL H5 a n.arcs := hp5.rw hA
        obtain ⟨k, o, c, hae, _, _, hrd⟩ := hA5.at hj
        unfold Arc.cells at hrd
        refine wa_sr ⟨_, by simp -implicitDefEqProofs [t15, t17, hae, hj, hrd]; rfl, ?_⟩
        have hM6 := hM5.app [.cells (n.arcs[j].cells) .ex]
        have hp6 := Hp_app hp5 [.cells (n.arcs[j].cells) .ex]
        have hk5 : ∀ o, rd (H5 ++ [.cells (n.arcs[j].cells) .ex]) H5.length o = n.arcs[j].cells[o]? := fun o => by simp
        change WP E _ ⟨_, H5 ++ [.cells (n.arcs[j].cells) .ex]⟩ _
        generalize H5 ++ [Blk.cells (n.arcs[j].cells) .ex] = H6 at *
        generalize hk5e : H5.length = k5 at *
        have q3 := hM6.rd3 []
        rw [List.append_nil] at q3
        have p0 : rd H6 k5 0 = some (.int .i64 n.arcs[j].src) := hk5 0
        have p1 : rd H6 k5 1 = some (.int .i64 n.arcs[j].dst) := hk5 1
        have p2 : rd H6 k5 2 = some (.int .i64 n.arcs[j].cap) := hk5 2
        obtain ⟨km, H7, hxe, w7, l7, hM7, f7⟩ := hM6.arc3 (i := j) (by simp only; rw [mixL_length _ _ _ (by omega)]; exact hj) (flip n.arcs[j])
        simp only [mixL_length _ _ _ (Nat.le_of_lt hj)] at hxe
        simp only [mixL_set flip _ _ hj] at hM7
        have hp7 := Hp_frame hp6 l7 f7 (hM6.own.ge km (by rw [hxe]; rfl))
        have w7' : wr H6 km (j * 3) [.int .i64 n.arcs[j].dst, .int .i64 n.arcs[j].src, .int .i64 n.arcs[j].cap] = some H7 := w7
        refine wa_regs ⟨_, by simp -implicitDefEqProofs [t3, q3, p0, p1, p2, fillc, hxe, hj, w7']; rfl, ?_⟩
        exact ⟨by simp [t17], by simp [t16], (), by simp [Rg, t2, t3, t15, hae], hM7, hp7⟩
      · rintro _ τ H5 ⟨t2, t3, t15, -⟩ ⟨hM5, hp5⟩
        rw [mixL_full] at hM5
        exact ⟨t2, t3, hM5, hp5⟩
    · rintro ⟨τ, H5⟩ ⟨t2, t3, hM5, hp5⟩
      dsimp only at t2 t3 hM5 hp5
      have hr5 := hM5.rd []
      rw [List.append_nil] at hr5
      have hk15 : H5[kb + 1]? = some (.cells [.int .i64 0, .int .i64 0, .int .i64 0, .nils] .ex) := by rw [hp5.old (kb + 1) (by omega)]; exact hk1
      have hk15l := (List.getElem?_eq_some_iff.1 hk15).1
      obtain ⟨H6, w6, hk6, hf6, hl6⟩ : ∃ X, wr H5 (kb + 1) 0 [.int .i64 (turn n).N, .int .i64 (turn n).S, .int .i64 (turn n).T, x] = some X ∧ X[kb + 1]? = some (nbox (turn n) x) ∧ (∀ k, k ≠ kb + 1 → X[k]? = H5[k]?) ∧ X.length = H5.length :=
        ⟨_, wrAll (vs := [.int .i64 (turn n).N, .int .i64 (turn n).S, .int .i64 (turn n).T, x]) hk15 rfl rfl (by simp only [List.all_cons, List.all_nil, hxs]; rfl), List.getElem?_set_self hk15l, fun k hk => List.getElem?_set_ne (fun e => hk e.symm), by simp⟩
      refine wa_sr ⟨_, by simp -implicitDefEqProofs [t2, t3, hr5, w6]; rfl, ?_⟩
      have hr6 : rdn H6 (kb + 1) 0 4 = some [.int .i64 (turn n).N, .int .i64 (turn n).S, .int .i64 (turn n).T, x] := by simp [rdn, hk6, nbox]
      have hp7 : Hp H H5 [] := hpH.x hp5
      refine wa_ret ⟨by simp, _, by simp -implicitDefEqProofs [t2, hr6]; rfl, x, rfl, ?_, ?_⟩
      · exact (Hp_frame hp7 hl6 hf6 (by omega)).eq
      · have : Own3 H6 HA.length x (turn n).arcs := hM5.own.frame fun k hk => hf6 k (by have := hM5.own.ge k hk; omega)
        rcases this with ⟨h2, h3⟩ | ⟨k, m, h2, h3, h4, h5⟩
        · exact .inl ⟨h2, h3⟩
        · exact .inr ⟨k, m, h2, by omega, h4, h5⟩
  obtain ⟨v, H', h, x, rfl, h2, h3⟩ := key
  exact ⟨x, H', h, h2, h3⟩

/-! ### Sums -/
def capS : List Ar.Arc → Int
  | [] => 0
  | x :: l => x.cap + capS l
theorem capS_cons (x : Ar.Arc) (l : List Ar.Arc) : capS (x :: l) = x.cap + capS l := rfl
theorem capS_nonneg : ∀ (l : List Ar.Arc), (∀ x, x ∈ l → 0 ≤ x.cap) → 0 ≤ capS l
  | [], _ => Int.le_refl _
  | x :: l, h => by
    have h1 := h x (by simp)
    have h2 := capS_nonneg l fun y hy => h y (by simp [hy])
    rw [capS_cons]; omega
theorem sumT_yes : ∀ (l : List Ar.Arc) (left : Int), (∀ x, x ∈ l → 0 ≤ x.cap) → capS l ≤ left → sumT left l = some (left - capS l)
  | [], left, _, _ => by simp [sumT, capS]
  | x :: l, left, h, hc => by
    have h1 := h x (by simp)
    have hl : ∀ y, y ∈ l → 0 ≤ y.cap := fun y hy => h y (by simp [hy])
    have h2 := capS_nonneg l hl
    rw [capS_cons] at hc
    simp only [sumT]
    rw [if_neg (by omega), sumT_yes l _ hl (by omega), capS_cons]
    congr 1; omega
theorem sumT_no : ∀ (l : List Ar.Arc) (left : Int), 0 ≤ left → ¬ ((∀ x, x ∈ l → 0 ≤ x.cap) ∧ capS l ≤ left) → sumT left l = none
  | [], left, h0, h => absurd ⟨fun x hx => by simp at hx, h0⟩ h
  | x :: l, left, h0, h => by
    simp only [sumT]
    by_cases h1 : x.cap < 0 ∨ left < x.cap
    · rw [if_pos h1]
    · rw [if_neg h1]
      refine sumT_no l _ (by omega) fun ⟨h2, h3⟩ => h ⟨fun y hy => ?_, by rw [capS_cons]; omega⟩
      rcases List.mem_cons.1 hy with rfl | hy
      · omega
      · exact h2 y hy
theorem sumOk_iff (l : List Ar.Arc) : sumOk l = true ↔ (∀ x, x ∈ l → 0 ≤ x.cap) ∧ capS l ≤ big := by
  unfold sumOk
  by_cases h : (∀ x, x ∈ l → 0 ≤ x.cap) ∧ capS l ≤ big
  · rw [sumT_yes l big h.1 h.2]; exact ⟨fun _ => h, fun _ => rfl⟩
  · rw [sumT_no l big (by unfold big; omega) h]; exact ⟨fun h' => (by cases h'), fun h' => absurd h' h⟩
theorem sumV_eq (l : List Ar.Arc) : sumV l = if sumOk l = true then capS l else 0 := by
  have h := sumOk_iff l
  unfold sumV
  by_cases hk : sumOk l = true
  · rw [if_pos hk, sumT_yes l big (h.1 hk).1 (h.1 hk).2]
    show big - (big - capS l) = _
    omega
  · rw [if_neg hk, sumT_no l big (by unfold big; omega) (fun h' => hk (h.2 h'))]
theorem capS_append (a b : List Ar.Arc) : capS (a ++ b) = capS a + capS b := by
  induction a with
  | nil => simp [capS]
  | cons x l ih => simp only [List.cons_append, capS, ih]; omega
theorem capS_flip (l : List Ar.Arc) : capS (l.map flip) = capS l := by
  induction l with
  | nil => rfl
  | cons x l ih => simp only [List.map_cons, capS, ih]; rfl
theorem sumOk_flip (l : List Ar.Arc) : sumOk (l.map flip) = sumOk l := by
  rw [Bool.eq_iff_iff, sumOk_iff, sumOk_iff, capS_flip]
  constructor
  · rintro ⟨h1, h2⟩; exact ⟨fun x hx => h1 (flip x) (List.mem_map.2 ⟨x, hx, rfl⟩), h2⟩
  · rintro ⟨h1, h2⟩
    refine ⟨fun x hx => ?_, h2⟩
    obtain ⟨y, hy, rfl⟩ := List.mem_map.1 hx
    exact h1 y hy
theorem sumV_flip (l : List Ar.Arc) : sumV (l.map flip) = sumV l := by rw [sumV_eq, sumV_eq, sumOk_flip, capS_flip]
theorem chk_turn (n : Net) : chk (turn n) = chk n := by
  have e1 : okN (turn n) = okN n := rfl
  have e2 : okM (turn n) = okM n := by simp [okM, turn]
  have e3 : okE (turn n) = okE n := by
    rw [Bool.eq_iff_iff, okE_iff, okE_iff]
    show (0 ≤ n.T ∧ n.T < n.N) ∧ (0 ≤ n.S ∧ n.S < n.N) ∧ n.T ≠ n.S ↔ _
    omega
  have e4 : ((turn n).arcs.all fun x => vtx (turn n) x.src && vtx (turn n) x.dst) = (n.arcs.all fun x => vtx n x.src && vtx n x.dst) := by
    simp only [turn, List.all_map]
    congr 1
    funext x
    exact Bool.and_comm _ _
  have e5 : ((turn n).arcs.all fun x => decide (0 ≤ x.cap)) = (n.arcs.all fun x => decide (0 ≤ x.cap)) := by
    simp only [turn, List.all_map]; rfl
  have e6 : sumOk (turn n).arcs = sumOk n.arcs := sumOk_flip n.arcs
  unfold chk
  rw [e1, e2, e3, e4, e5, e6]
theorem flip_inj {l m : List Ar.Arc} : l.map flip = m.map flip ↔ l = m := by
  constructor
  · intro h
    have := congrArg (List.map flip) h
    simp only [List.map_map] at this
    have e : flip ∘ flip = id := rfl
    rwa [e, List.map_id, List.map_id] at this
  · rintro rfl; rfl
theorem same_turn (n o : Net) : sameB (turn n) (turn o) = sameB n o := by
  rw [Bool.eq_iff_iff]
  simp only [sameB, decide_eq_true_eq, turn, flip_inj]
  constructor
  · rintro ⟨a, b, c, d⟩; exact ⟨a, c, b, d⟩
  · rintro ⟨a, b, c, d⟩; exact ⟨a, c, b, d⟩
end Go.Proofs.Ytpojdgeginigjaa
