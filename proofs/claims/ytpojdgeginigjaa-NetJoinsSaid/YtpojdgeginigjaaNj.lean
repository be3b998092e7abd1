/- NetSums: the walk. -/
import Derived.Test.YtpojdgeginigjaaNh
import Derived.Test.YtpojdgeginigjaaAr31
import Derived.Test.YtpojdgeginigjaaNL
set_option linter.unusedSimpArgs false
set_option linter.unusedVariables false
namespace Go.Proofs.Ytpojdgeginigjaa
open Go Go.Ar
set_option maxRecDepth 100000

theorem acells_take (l : List Ar.Arc) (m : Nat) : (acells l).take (m * 3) = acells (l.take m) := by
  induction l generalizing m with
  | nil => simp [acells]
  | cons x l ih =>
    cases m with
    | zero => simp [acells]
    | succ m =>
      have := ih m
      simp only [acells, List.flatMap_cons, List.take_succ_cons] at this ⊢
      rw [List.take_append, List.take_of_length_le (by simp [Arc.cells]; omega)]
      have e : (m + 1) * 3 - (Arc.cells x).length = m * 3 := by simp [Arc.cells]; omega
      rw [e, this]
theorem acells_drop (l : List Ar.Arc) (m : Nat) : (acells l).drop (m * 3) = acells (l.drop m) := by
  induction l generalizing m with
  | nil => simp [acells]
  | cons x l ih =>
    cases m with
    | zero => simp [acells]
    | succ m =>
      have := ih m
      simp only [acells, List.flatMap_cons, List.drop_succ_cons] at this ⊢
      rw [List.drop_append, List.drop_eq_nil_of_le (by simp [Arc.cells]; omega)]
      have e : (m + 1) * 3 - (Arc.cells x).length = m * 3 := by simp [Arc.cells]; omega
      rw [e, this]; rfl
/-- A slice of arcs, sliced. -/
theorem AL.slice {H : Heap} {x : V} {l : List Ar.Arc} (h : AL H x l) (hg : SlG H 3 x) {lo hi : Option V} {i m : Nat} (hlo : loOf lo = some (i : Int)) (hhi : hiOf l.length hi = some (m : Int)) (h1 : i ≤ m) (h2 : m ≤ l.length) :
    ∃ x', slcv H 3 x lo hi = some x' ∧ AL H x' ((l.take m).drop i) ∧ SlG H 3 x' ∧ ∀ k, x'.blk? = some k → x.blk? = some k := by
  obtain ⟨x', a1, a2, a3, a4⟩ := Rw.slice h hg hlo hhi h1 h2
  refine ⟨x', a1, ?_, a3, a4⟩
  have e : ((l.flatMap Arc.cells).drop (i * 3)).take ((m - i) * 3) = ((l.take m).drop i).flatMap Arc.cells := by
    have h3 := acells_take l m
    have h4 := acells_drop (l.take m) i
    simp only [acells] at h3 h4
    rw [← h4, ← h3, List.drop_take]
    congr 1
    omega
  rw [e] at a2
  have e2 : ((l.take m).drop i).length = m - i := by simp; omega
  unfold AL
  rw [e2]; exact a2
/-- One arc more. -/
theorem push3 {H : Heap} {B : Nat} {x : V} {l : List Ar.Arc} (h : Own3 H B x l) (hB : B ≤ H.length) (c : Ar.Arc) (hs : l.length ≤ 2 ^ 20) : ∃ x' H', appendv (H ++ [.cells c.cells .ex]) 3 24 x (.sl H.length 0 1 1) = some (x', H') ∧ Own3 H' B x' (l ++ [c]) ∧ H.length ≤ H'.length ∧ (∀ k, k < H.length → x.blk? ≠ some k → H'[k]? = H[k]?) ∧ (∀ k, x'.blk? = some k → H.length ≤ k) := by
  have hc : cellsOf (H ++ [.cells c.cells .ex]) 3 (.sl H.length 0 1 1) = some c.cells := by simp [cellsOf, rdn, Arc.cells]
  have hsc : c.cells.all V.scalar = true := rfl
  have hap : ∀ l : List Ar.Arc, acells l ++ c.cells = acells (l ++ [c]) := fun l => by simp [acells]
  rcases h with ⟨rfl, rfl⟩ | ⟨k, m, rfl, hb, hk, hm⟩
  · refine ⟨.sl (H.length + 1) 0 1 1, H ++ [.cells c.cells .ex] ++ [.cells c.cells (.gr 3)], ?_, .inr ⟨H.length + 1, .gr 3, rfl, by omega, by simp [acells], .inl rfl⟩, by simp, fun k hk _ => by simp [List.getElem?_append_left, hk], fun k hk => by simp [V.blk?] at hk; omega⟩
    unfold appendv
    simp only [lenOf, hc, hsc]
    rw [if_neg (by simp), if_neg (by omega), if_pos (by unfold lim; omega)]
    simp
  · have hkl := (List.getElem?_eq_some_iff.1 hk).1
    have hk' : (H ++ [Blk.cells c.cells .ex])[k]? = some (.cells (acells l) m) := by rw [List.getElem?_append_left hkl]; exact hk
    have hal := acells_length l
    rcases hm with rfl | ⟨rfl, rfl⟩
    · refine ⟨.sl (H.length + 1) 0 (l.length + 1) (l.length + 1), (H ++ [Blk.cells c.cells .ex]).set k .dead ++ [.cells (acells (l ++ [c])) (.gr 3)], ?_, .inr ⟨H.length + 1, .gr 3, by simp, by omega, ?_, .inl rfl⟩, by simp; omega, fun j hj hne => ?_, fun j hj => by simp [V.blk?] at hj; omega⟩
      · unfold appendv
        simp only [lenOf, hc, hsc, hk']
        rw [if_neg (by simp), if_pos (by omega), if_neg (by omega), if_pos (by unfold lim; omega), if_pos ⟨trivial, trivial⟩, List.take_of_length_le (by omega), hap]
        simp
      · rw [List.getElem?_append_right (by simp)]; simp
      · rw [List.getElem?_append_left (by simp; omega), List.getElem?_set_ne (fun e => hne (by rw [e]; rfl)), List.getElem?_append_left hj]
    · refine ⟨.sl (H.length + 1) 0 1 1, H ++ [.cells c.cells .ex] ++ [.cells c.cells (.gr 3)], ?_, .inr ⟨H.length + 1, .gr 3, rfl, by omega, by simp [acells], .inl rfl⟩, by simp, fun j hj _ => by simp [List.getElem?_append_left, hj], fun j hj => by simp [V.blk?] at hj; omega⟩
      unfold appendv
      simp only [lenOf, hc, hsc, hk']
      rw [if_neg (by simp), if_pos (by simp), if_neg (by simp), if_pos (by unfold lim; simp)]
      simp [acells]

/-- A row of arcs, appended. -/
theorem append3 {H : Heap} {B : Nat} {x y : V} {l l2 : List Ar.Arc} (h : Own3 H B x l) (hB : B ≤ H.length) (hy : AL H y l2) (hs : l.length + l2.length ≤ 2 ^ 20) : ∃ x' H', appendv H 3 24 x y = some (x', H') ∧ Own3 H' B x' (l ++ l2) ∧ H.length ≤ H'.length ∧ (∀ k, k < H.length → x.blk? ≠ some k → H'[k]? = H[k]?) := by
  have hyl : lenOf y = some l2.length := Rw.len hy
  have hyc : cellsOf H 3 y = some (acells l2) := hy.cells
  have hsc := acells_scalar l2
  have hap : acells l ++ acells l2 = acells (l ++ l2) := by simp [acells]
  have hll := acells_length l
  have hll2 := acells_length l2
  by_cases h0 : l2.length = 0
  · have : l2 = [] := List.eq_nil_of_length_eq_zero h0
    subst this
    rw [List.append_nil]
    rcases h with ⟨rfl, rfl⟩ | ⟨k, m, rfl, hb, hk, hm⟩
    · refine ⟨.nils, H, ?_, .inl ⟨rfl, rfl⟩, Nat.le_refl _, fun k _ _ => rfl⟩
      unfold appendv
      simp only [hyl, hyc, hsc]
      rw [if_neg (by simp), if_pos (by simp)]
    · have hwm : m.wr = true := by rcases hm with rfl | ⟨rfl, _⟩ <;> rfl
      have hw := wrN (o := 0 + l.length * 3) (vs := acells []) hk hwm (by rw [hll]; simp [acells]) rfl
      have he : wrc (acells l) (0 + l.length * 3) (acells []) = acells l := rfl
      rw [he] at hw
      have hset : H.set k (.cells (acells l) m) = H := by
        refine List.ext_getElem? fun j => ?_
        by_cases e : k = j
        · subst e; rw [List.getElem?_set_self (List.getElem?_eq_some_iff.1 hk).1]; exact hk.symm
        · rw [List.getElem?_set_ne e]
      rw [hset] at hw
      refine ⟨.sl k 0 l.length l.length, H, ?_, .inr ⟨k, m, rfl, hb, hk, hm⟩, Nat.le_refl _, fun k _ _ => rfl⟩
      unfold appendv
      simp only [hyl, hyc, hsc, hk]
      rw [if_neg (by simp), if_pos (by omega), if_pos (by simp), hw]
      simp
  · rcases h with ⟨rfl, rfl⟩ | ⟨k, m, rfl, hb, hk, hm⟩
    · refine ⟨.sl H.length 0 l2.length l2.length, H ++ [.cells (acells l2) (.gr 3)], ?_, .inr ⟨H.length, .gr 3, by simp, hB, by simp, .inl rfl⟩, by simp, fun k hk _ => by rw [List.getElem?_append_left hk]⟩
      unfold appendv
      simp only [hyl, hyc, hsc]
      rw [if_neg (by simp), if_neg h0, if_pos (by unfold lim; omega)]
    · rcases hm with rfl | ⟨rfl, rfl⟩
      · refine ⟨.sl H.length 0 (l.length + l2.length) (l.length + l2.length), H.set k .dead ++ [.cells (acells (l ++ l2)) (.gr 3)], ?_, .inr ⟨H.length, .gr 3, by simp, hB, ?_, .inl rfl⟩, by simp, fun j hj hne => ?_⟩
        · unfold appendv
          simp only [hyl, hyc, hsc, hk]
          rw [if_neg (by simp), if_pos (by omega), if_neg (by omega), if_pos (by unfold lim; omega), if_pos ⟨trivial, trivial⟩, List.take_of_length_le (by omega), hap]
        · rw [List.getElem?_append_right (by simp)]; simp
        · rw [List.getElem?_append_left (by simpa using hj), List.getElem?_set_ne (fun e => hne (by rw [e]; rfl))]
      · refine ⟨.sl H.length 0 l2.length l2.length, H ++ [.cells (acells l2) (.gr 3)], ?_, .inr ⟨H.length, .gr 3, by simp, hB, by simp, .inl rfl⟩, by simp, fun j hj _ => by rw [List.getElem?_append_left hj]⟩
        unfold appendv
        simp only [hyl, hyc, hsc, hk]
        rw [if_neg (by simp), if_pos (by simp), if_neg (by simp only [List.length_nil]; omega), if_pos (by unfold lim; simp only [List.length_nil]; omega)]
        simp [acells]

theorem blk_ptr (k o : Nat) : (V.ptr k o).blk? = some k := rfl
theorem blk_sl (k o n c : Nat) : (V.sl k o n c).blk? = some k := rfl
theorem capS_perm {k : Nat} (l : List Ar.Arc) : capS (l.drop k ++ l.take k) = capS l := by
  rw [capS_append, Int.add_comm, ← capS_append, List.take_append_drop]
theorem sumOk_rot (k : Nat) (l : List Ar.Arc) : sumOk (l.drop k ++ l.take k) = sumOk l := by
  rw [Bool.eq_iff_iff, sumOk_iff, sumOk_iff, capS_perm]
  have : ∀ x, x ∈ l.drop k ++ l.take k ↔ x ∈ l := fun x => by
    rw [List.mem_append]
    constructor
    · rintro (h | h)
      · exact List.mem_of_mem_drop h
      · exact List.mem_of_mem_take h
    · intro h
      rw [← List.take_append_drop k l, List.mem_append] at h
      exact h.symm
  simp only [this]
theorem sumV_rot (k : Nat) (l : List Ar.Arc) : sumV (l.drop k ++ l.take k) = sumV l := by rw [sumV_eq, sumV_eq, sumOk_rot, capS_perm]
theorem cap_le : ∀ (l : List Ar.Arc), (∀ x, x ∈ l → 0 ≤ x.cap) → ∀ x, x ∈ l → x.cap ≤ capS l
  | [], _, x, hx => by simp at hx
  | y :: l, h, x, hx => by
    have h1 := h y (by simp)
    have h2 := capS_nonneg l fun y hy => h y (by simp [hy])
    simp only [capS]
    rcases List.mem_cons.1 hx with rfl | hx
    · omega
    · have := cap_le l (fun y hy => h y (by simp [hy])) x hx
      omega
theorem sum_bounds (l : List Ar.Arc) : 0 ≤ sumV l ∧ sumV l ≤ big := by
  rw [sumV_eq]
  split
  · rename_i h
    have := (sumOk_iff l).1 h
    exact ⟨capS_nonneg l this.1, this.2⟩
  · unfold big; omega
theorem sumOk_snoc (l : List Ar.Arc) (c : Int) : sumOk (l ++ [⟨0, 0, c⟩]) = (sumOk l && (decide (0 ≤ c) && decide (c ≤ big - sumV l))) := by
  rw [Bool.eq_iff_iff, sumOk_iff, capS_append]
  simp only [Bool.and_eq_true, decide_eq_true_eq, capS]
  constructor
  · rintro ⟨h1, h2⟩
    have hc : 0 ≤ c := h1 ⟨0, 0, c⟩ (by simp)
    have hl : ∀ x, x ∈ l → 0 ≤ x.cap := fun x hx => h1 x (by simp [hx])
    have hk : sumOk l = true := (sumOk_iff l).2 ⟨hl, by omega⟩
    refine ⟨hk, hc, ?_⟩
    rw [sumV_eq, if_pos hk]; omega
  · rintro ⟨h1, h2, h3⟩
    rw [sumV_eq, if_pos h1] at h3
    obtain ⟨h4, h5⟩ := (sumOk_iff l).1 h1
    refine ⟨fun x hx => ?_, by omega⟩
    rcases List.mem_append.1 hx with hx | hx
    · exact h4 x hx
    · simp at hx; subst hx; exact h2
theorem sumV_snoc (l : List Ar.Arc) (c : Int) : sumV (l ++ [⟨0, 0, c⟩]) = if sumOk (l ++ [⟨0, 0, c⟩]) = true then sumV l + c else 0 := by
  rw [sumV_eq]
  split
  · rename_i h
    rw [sumOk_snoc, Bool.and_eq_true] at h
    rw [sumV_eq, if_pos h.1, capS_append]
    simp [capS]
  · rfl

set_option maxHeartbeats 4000000 in
theorem sums_law {H : Heap} {n0 : Net} {a0 : V} {tn c : Int} (hin : NetIn H n0 a0) (ht : 0 ≤ tn ∧ tn ≤ 255) (hc : i64b c) :
    ∃ v H', callL E (.f 4) [NV n0 a0, .int .u8 tn, .int .i64 c] H = some (v, H') ∧ v = .bool true := by
  refine call_E rfl nc4 rfl ?_
  unfold gc4
  unfold i64b at hc
  have hl0 : lenOf a0 = some n0.arcs.length := Rw.len hin.al
  obtain ⟨a, s1, hal, hsg, hab⟩ := AL.slice hin.al hin.sg (lo := none) (hi := some (.int .i64 ((min n0.arcs.length 100 : Nat) : Int))) (i := 0) (m := min n0.arcs.length 100) rfl rfl (by omega) (by omega)
  rw [List.drop_zero] at hal
  have hmn : (if (100 : Int) < n0.arcs.length then (100 : Int) else n0.arcs.length) = ((min n0.arcs.length 100 : Nat) : Int) := by split <;> omega
  have hsl : Sl a := by
    rcases hin.sl with rfl | ⟨k, o, l, cc, rfl⟩
    · simp only [slcv, hiOf, loOf] at s1
      split at s1
      · cases s1; exact .inl rfl
      · cases s1
    · simp only [slcv, hiOf, loOf] at s1
      split at s1
      · split at s1 <;> try (split at s1) <;> try (cases s1; done)
        all_goals (simp [moved] at s1; try exact .inr ⟨_, _, _, _, s1.symm⟩)
      · cases s1
  let n : Net := { n0 with arcs := n0.arcs.take (min n0.arcs.length 100) }
  have hnl : n.arcs.length ≤ 100 := by simp [n]; omega
  have hal : AL H a n.arcs := hal
  have hcap : ∀ x, x ∈ n.arcs → i64b x.cap := fun x hx => (hin.arc x (List.mem_of_mem_take hx)).2.2
  have hl : lenOf a = some n.arcs.length := Rw.len hal
  have has : a.scalar = true := len_scalar hl
  unfold NV
  refine wa_sr ⟨_, by simp [len_cells hl0]; rfl, ?_⟩
  have s1' : ∀ G, slcv (H ++ G) 3 a0 none (some (.int .i64 ((min n0.arcs.length 100 : Nat) : Int))) = some a := fun G => by
    rw [← s1]
    cases a0 with
    | sl k o l cc =>
      have hk := Rw.lt hin.al k rfl
      simp only [slcv]
      rw [List.getElem?_append_left hk]
    | _ => rfl
  refine wa_sr ⟨_, by simp -implicitDefEqProofs [hl0, hmn, s1', len_cells hl, has]; rfl, ?_⟩
  change WP E _ ⟨_, H ++ [nbox n a]⟩ _
  have hA := hal.app [nbox n a]
  have hgA := hsg.app [nbox n a]
  have r3 : ∀ G, rdn (H ++ [nbox n a] ++ G) H.length 0 4 = some [.int .i64 n.N, .int .i64 n.S, .int .i64 n.T, a] := fun G => by simp [nbox]
  have r33 : ∀ G, rd (H ++ [nbox n a] ++ G) H.length 3 = some a := fun G => by simp [nbox]
  have hk3 : H.length < (H ++ [nbox n a]).length := by simp
  have hablt : ∀ k, a.blk? = some k → k < H.length := Rw.lt hal
  refine wa_rg [(1, .int .u8 tn), (2, .int .i64 c), (3, .ptr H.length 0)] (by simp [Rg]) ?_
  rintro τ ⟨t1, t2, t3, -⟩
  dsimp only at t1 t2 t3
  clear_value n
  generalize H ++ [nbox n a] = HA at *
  generalize H.length = k3 at *
  obtain ⟨f1, g1⟩ := pc_sum hA (by omega)
  unfold NV at g1
  have r3e := r3 []
  have g1e := g1 []
  rw [List.append_nil] at r3e g1e
  rw [List.nil_append] at g1e
  have hsb := sum_bounds n.arcs
  unfold big at hsb
  refine wa_sr ⟨_, by simp -implicitDefEqProofs [t3, r3e, g1e]; rfl, ?_⟩
  refine wa_sr ⟨_, by simp -implicitDefEqProofs [t3, r33, hl]; rfl, ?_⟩
  generalize hG1 : f1 [] = G1 at *
  have hA1 := hA.app G1
  have hgA1 := hgA.app G1
  have r3' : ∀ G, rdn (HA ++ G1 ++ G) k3 0 4 = some [.int .i64 n.N, .int .i64 n.S, .int .i64 n.T, a] := fun G => by rw [List.append_assoc]; exact r3 _
  have r33' : ∀ G, rd (HA ++ G1 ++ G) k3 3 = some a := fun G => by rw [List.append_assoc]; exact r33 _
  have hk31 : k3 < (HA ++ G1).length := by simp; omega
  refine wa_rg [(1, .int .u8 tn), (2, .int .i64 c), (3, .ptr k3 0), (7, .int .i64 (sumV n.arcs)), (8, .bool (sumOk n.arcs)), (34, .bool (decide (0 < n.arcs.length)))] (by simp [Rg, t1, t2, t3]) ?_
  clear t1 t2 t3 g1 g1e r3e r3 r33 τ hG1
  rintro τ ⟨t1, t2, t3, t7, t8, t34, -⟩
  dsimp only at t1 t2 t3 t7 t8 t34
  have hHA : HA.length ≤ (HA ++ G1).length := by simp
  generalize HA ++ G1 = H1 at *
  -- turned round
  refine wa_cut (fun s => (∃ G, s.H = H1 ++ G) ∧ Rg s.τ [(2, .int .i64 c), (3, .ptr k3 0), (7, .int .i64 (sumV n.arcs)), (8, .bool (sumOk n.arcs))]) ?_ ?_
  · by_cases h0 : 0 < n.arcs.length
    case neg =>
      refine wa_cond (t := false) (by simp only [ev]; rw [t34]; simpa using h0) (fun h => by cases h) (fun _ => wa_skip ?_)
      exact ⟨⟨[], by simp⟩, by simp [Rg, t2, t3, t7, t8]⟩
    refine wa_cond (t := true) (by simp only [ev]; rw [t34]; simpa using h0) (fun _ => ?_) (fun h => by cases h)
    have hwt : IntKind.i64.wrap tn = tn := w64 (by omega) (by omega)
    obtain ⟨k, hk, hkl⟩ : ∃ k : Nat, tn.tmod n.arcs.length = k ∧ k < n.arcs.length := by
      have h1 := Int.tmod_lt_of_pos tn (by omega : (0 : Int) < n.arcs.length)
      have h2 : 0 ≤ tn.tmod n.arcs.length := Int.tmod_nonneg _ ht.1
      exact ⟨(tn.tmod n.arcs.length).toNat, by omega, by omega⟩
    have hne : n.arcs ≠ [] := by intro e; rw [e] at h0; simp at h0
    have r33e := r33' []
    have r3e := r3' []
    rw [List.append_nil] at r33e r3e
    refine wa_sr ⟨_, by simp -implicitDefEqProofs [t1, t3, r33e, hl, hwt, hne, hk]; rfl, ?_⟩
    refine wa_sr ⟨_, by simp -implicitDefEqProofs [t3, r3e, has]; rfl, ?_⟩
    change WP E _ ⟨_, H1 ++ [nbox n a]⟩ _
    have hA2 := hA1.app [nbox n a]
    have hgA2 := hgA1.app [nbox n a]
    have r10 : ∀ G, rdn (H1 ++ [nbox n a] ++ G) H1.length 0 4 = some [.int .i64 n.N, .int .i64 n.S, .int .i64 n.T, a] := fun G => by simp [nbox]
    have b10 : (H1 ++ [nbox n a])[H1.length]? = some (nbox n a) := by simp
    have r332 : ∀ G, rd (H1 ++ [nbox n a] ++ G) k3 3 = some a := fun G => by rw [List.append_assoc]; exact r33' _
    have hk32 : k3 < (H1 ++ [nbox n a]).length := by simp; omega
    have hk10 : H1.length < (H1 ++ [nbox n a]).length := by simp
    have eH : ∃ G0, H1 ++ [nbox n a] = H1 ++ G0 := ⟨_, rfl⟩
    have hl12 : H1.length ≤ (H1 ++ [nbox n a]).length := by simp
    generalize H1 ++ [nbox n a] = H2 at *
    generalize hk10e : H1.length = k10 at *
    obtain ⟨y1, p1, p2, p3, p4⟩ := AL.slice hA2 hgA2 (lo := some (.int .i64 (k : Int))) (hi := none) (i := k) (m := n.arcs.length) rfl rfl (by omega) (Nat.le_refl _)
    obtain ⟨y2, q1, q2, q3, q4⟩ := AL.slice hA2 hgA2 (lo := none) (hi := some (.int .i64 (k : Int))) (i := 0) (m := k) rfl rfl (by omega) (by omega)
    rw [List.take_length] at p2
    rw [List.drop_zero] at q2
    have hslx : ∀ (G : Heap) (lo hi : Option V) (z : V), slcv H2 3 a lo hi = some z → slcv (H2 ++ G) 3 a lo hi = some z := fun G lo hi z hz => by
      rw [← hz]
      cases a with
      | sl k o l cc =>
        have hk := Rw.lt hA2 k rfl
        simp only [slcv]
        rw [List.getElem?_append_left hk]
      | _ => rfl
    obtain ⟨x1, H3, u1, u2⟩ := appnew_ok (sz := 3) (by' := 24) (Rw.len p2) p2.cells (Rw.lt p2) (acells_scalar _) (acells_length _) (by simp; omega) (by simp; unfold lim; omega)
    have hO1 : Own3 H3 H2.length x1 (n.arcs.drop k) ∧ ∃ G, H3 = H2 ++ G := by
      rcases u2 with ⟨z0, _, _⟩ | ⟨_, rfl, rfl⟩
      · simp at z0; omega
      · exact ⟨.inr ⟨H2.length + 1, .gr 3, rfl, by omega, by rw [List.getElem?_append_right (by simp)]; simp [acells], .inl rfl⟩, _, List.append_assoc _ _ _⟩
    obtain ⟨hO1, G3, hG3⟩ := hO1
    have hq3 : AL H3 y2 (n.arcs.take k) := by rw [hG3]; exact q2.app G3
    obtain ⟨x2, H4, v1, v2, v3, v4⟩ := append3 hO1 (by rw [hG3]; simp) hq3 (by simp; omega)
    have hx2s : x2.scalar = true := len_scalar (Rw.len v2.al)
    have hx1k : ∀ j, j < H2.length → x1.blk? ≠ some j := fun j hj e => by have := hO1.ge j e; omega
    have hp4 : Hp H2 H4 [] := ⟨by have : H2.length ≤ H3.length := by rw [hG3]; simp
                                  omega, fun j hj => by rw [v4 j (by rw [hG3]; simp; omega) (hx1k j hj), hG3, List.getElem?_append_left hj], fun p hp => by simp at hp, List.nodup_nil⟩
    have b104 : H4[k10]? = some (nbox n a) := by rw [hp4.old k10 hk10]; exact b10
    obtain ⟨H5, w5, c5, f5, l5⟩ : ∃ X, wr H4 k10 3 [x2] = some X ∧ X[k10]? = some (nbox { n with arcs := n.arcs.drop k ++ n.arcs.take k } x2) ∧ (∀ j, j ≠ k10 → X[j]? = H4[j]?) ∧ X.length = H4.length :=
      ⟨_, wr1 (o := 3) (v := x2) (cs := [.int .i64 n.N, .int .i64 n.S, .int .i64 n.T, a]) b104 rfl (by simp) hx2s, List.getElem?_set_self (List.getElem?_eq_some_iff.1 b104).1, fun j hj => List.getElem?_set_ne (fun e => hj e.symm), by simp⟩
    have w5' := w5
    have hN : H2.length = (H2 : Heap).length := rfl
    refine wa_dw ?_
    refine ⟨_, by
      have z1 : slcv (H2 ++ [Blk.cells [] .ex]) 3 a (some (.int .i64 (k : Int))) none = some y1 := hslx _ _ _ _ p1
      have z2 : slcv H3 3 a none (some (.int .i64 (k : Int))) = some y2 := by rw [hG3]; exact hslx _ _ _ _ q1
      have z3 : rd (H2 ++ [Blk.cells [] .ex]) k3 3 = some a := r332 _
      have z4 : rd H3 k3 3 = some a := by rw [hG3]; exact r332 _
      simp -implicitDefEqProofs [dinsL, dins, newOf, fillc, t3, z1, z2, z3, z4, u1, v1, len_cells (Rw.len v2.al), w5']
      rfl, ?_, ?_⟩
    · cases hb : a.blk? with
      | none => simp [Chk.ok, blk_ptr, blk_sl, hb]; omega
      | some j => have := hablt j hb; simp [Chk.ok, blk_ptr, blk_sl, hb]; omega
    refine wa_rg [(2, .int .i64 c), (3, .ptr k3 0), (7, .int .i64 (sumV n.arcs)), (8, .bool (sumOk n.arcs)), (10, .ptr k10 0)] (by simp [Rg, t2, t3, t7, t8]) ?_
    rintro τ1 ⟨t2, t3, t7, t8, t10, -⟩
    dsimp only at t2 t3 t7 t8 t10
    have hx5 : AL H5 x2 (n.arcs.drop k ++ n.arcs.take k) := v2.al.frame fun j hj => f5 j (by have := v2.ge j hj; omega)
    obtain ⟨f7, g7⟩ := pc_sum (n := { n with arcs := n.arcs.drop k ++ n.arcs.take k }) hx5 (by simp; omega)
    have g7e := g7 []
    rw [List.append_nil, List.nil_append] at g7e
    simp only [sumV_rot, sumOk_rot] at g7e
    unfold NV at g7e
    dsimp only at g7e
    have r5 : rdn H5 k10 0 4 = some [.int .i64 n.N, .int .i64 n.S, .int .i64 n.T, x2] := by simp [rdn, c5, nbox]
    refine wa_sr ⟨_, by simp -implicitDefEqProofs [t10, r5, g7e]; rfl, ?_⟩
    generalize sumOk n.arcs = ok at *
    refine wa_sr ⟨_, by simp -implicitDefEqProofs [t7, t8]; rfl, ?_⟩
    refine wa_cond (t := false) (by simp) (fun h => by cases h) (fun _ => wa_skip ?_)
    refine ⟨?_, by simp [Rg, t2, t3, t7, t8]⟩
    obtain ⟨G0, hG0⟩ := eH
    have hp5 : Hp H1 H5 [] := ⟨by rw [l5]; have := hp4.le; omega, fun j hj => by rw [f5 j (by omega), hp4.old j (by omega), hG0, List.getElem?_append_left hj], fun p hp => by simp at hp, List.nodup_nil⟩
    obtain ⟨G5, hG5⟩ := hp5.eq
    exact ⟨G5 ++ f7 [], by rw [hG5]; simp⟩
  · rintro ⟨τ1, H2⟩ ⟨⟨G, hG⟩, u2, u3, u7, u8, -⟩
    dsimp only at hG u2 u3 u7 u8
    subst hG
    clear t1 t2 t3 t7 t8 t34 τ
    have hA2 := hA1.app G
    have r3z : ∀ G', rdn (H1 ++ G ++ G') k3 0 4 = some [.int .i64 n.N, .int .i64 n.S, .int .i64 n.T, a] := fun G' => by rw [List.append_assoc]; exact r3' _
    have r33z : ∀ G', rd (H1 ++ G ++ G') k3 3 = some a := fun G' => by rw [List.append_assoc]; exact r33' _
    have hk32 : k3 < (H1 ++ G).length := by simp; omega
    generalize H1 ++ G = H2 at *
    -- a copy, with one arc more
    obtain ⟨x, H3, e1, ⟨G3, hG3⟩, e3⟩ := copy_ok hA2 hsl (by omega)
    unfold NV at e1
    have hxs : x.scalar = true := len_scalar (Rw.len e3.al)
    have r3e := r3z []
    rw [List.append_nil] at r3e
    refine wa_sr ⟨_, by simp -implicitDefEqProofs [u3, r3e, e1, hxs]; rfl, ?_⟩
    change WP E _ ⟨_, H3 ++ [nbox n x]⟩ _
    have hm0 : MB H2.length (H3 ++ [nbox n x]) H3.length n x := ⟨by rw [hG3]; simp, by simp, (e3.app _), fun k hk => by have := Rw.lt e3.al k hk; omega⟩
    have hp0 : Hp H2 (H3 ++ [nbox n x]) [] := by rw [hG3, List.append_assoc]; exact Hp.app _ _
    generalize H3 ++ [nbox n x] = H4 at *
    generalize H3.length = k13 at *
    obtain ⟨x5, H5, p1, p2, p3, p4, p5⟩ := push3 hm0.own hp0.le ⟨0, 0, c⟩ (by omega)
    have hx5s : x5.scalar = true := len_scalar (Rw.len p2.al)
    have hmlt := hm0.lt
    have b5 : H5[k13]? = some (nbox n x) := by rw [p4 k13 hmlt (fun e => hm0.ne k13 e rfl)]; exact hm0.box
    obtain ⟨H6, w6, c6, f6, l6⟩ : ∃ X, wr H5 k13 3 [x5] = some X ∧ X[k13]? = some (nbox { n with arcs := n.arcs ++ [⟨0, 0, c⟩] } x5) ∧ (∀ j, j ≠ k13 → X[j]? = H5[j]?) ∧ X.length = H5.length :=
      ⟨_, wr1 (o := 3) (v := x5) (cs := [.int .i64 n.N, .int .i64 n.S, .int .i64 n.T, x]) b5 rfl (by simp) hx5s, List.getElem?_set_self (List.getElem?_eq_some_iff.1 b5).1, fun j hj => List.getElem?_set_ne (fun e => hj e.symm), by simp⟩
    have q3 := hm0.rd3 []
    rw [List.append_nil] at q3
    have p1' : appendv (H4 ++ [.cells [.int .i64 0, .int .i64 0, .int .i64 c] .ex]) 3 24 x (.sl H4.length 0 1 1) = some (x5, H5) := p1
    refine wa_sr ⟨_, by simp -implicitDefEqProofs [u2, q3, fillc, p1', hx5s, len_cells (Rw.len p2.al), w6]; rfl, ?_⟩
    have hx6 : AL H6 x5 (n.arcs ++ [⟨0, 0, c⟩]) := p2.al.frame fun j hj => f6 j (by have := p5 j hj; omega)
    have hp6 : Hp H2 H6 [] := ⟨by rw [l6]; have := hp0.le; omega, fun j hj => by
      have h1 := hp0.le
      have h2 := hm0.ge
      rw [f6 j (by omega), p4 j (by omega) (fun e => by have := hm0.own.ge j e; omega)]
      exact hp0.old j hj, fun p hp => by simp at hp, List.nodup_nil⟩
    obtain ⟨f7, g7⟩ := pc_sum (n := { n with arcs := n.arcs ++ [⟨0, 0, c⟩] }) hx6 (by simp; omega)
    have g7e := g7 []
    rw [List.append_nil, List.nil_append] at g7e
    unfold NV at g7e
    dsimp only at g7e
    have r6 : rdn H6 k13 0 4 = some [.int .i64 n.N, .int .i64 n.S, .int .i64 n.T, x5] := by simp [rdn, c6, nbox]
    refine wa_sr ⟨_, by simp -implicitDefEqProofs [r6, g7e]; rfl, ?_⟩
    have hok := sumOk_snoc n.arcs c
    have hv := sumV_snoc n.arcs c
    obtain ⟨G6, hG6⟩ := hp6.eq
    have r33w : ∀ G', rd (H6 ++ G') k3 3 = some a := fun G' => by rw [hG6, List.append_assoc]; exact r33z _
    have hA6 : AL H6 a n.arcs := by rw [hG6]; exact hA2.app _
    have hA7 := hA6.app (f7 [])
    have r33w' := r33w (f7 [])
    refine wa_rg [(2, .int .i64 c), (3, .ptr k3 0), (7, .int .i64 (sumV n.arcs)), (8, .bool (sumOk n.arcs)), (14, .int .i64 (sumV (n.arcs ++ [⟨0, 0, c⟩]))), (15, .bool (sumOk (n.arcs ++ [⟨0, 0, c⟩])))] (by simp [Rg, u2, u3, u7, u8]) ?_
    generalize H6 ++ f7 [] = H7 at *
    rintro τ ⟨v2, v3, v7, v8, v14, v15, -⟩
    dsimp only at v2 v3 v7 v8 v14 v15
    have hwb : IntKind.i64.wrap (4611686018427387904 - sumV n.arcs) = 4611686018427387904 - sumV n.arcs := w64 (by omega) (by omega)
    unfold big at hok
    refine wa_cut (fun s => s.H = H7 ∧ Rg s.τ [(3, .ptr k3 0), (7, .int .i64 (sumV n.arcs)), (8, .bool (sumOk n.arcs)), (111, .bool false)]) ?_ ?_
    · cases h8 : sumOk n.arcs
      · rw [h8] at hok v8
        simp only [Bool.false_and] at hok
        rw [hok] at v15 hv
        simp only [Bool.false_eq_true, if_false] at hv
        rw [hv] at v14
        refine wa_regs ⟨_, by simp -implicitDefEqProofs [v2, v7, v8, v14, v15]; rfl, rfl, by simp [Rg, v3, v7, v8]⟩
      · rw [h8] at hok v8
        simp only [Bool.true_and] at hok
        by_cases c0 : 0 ≤ c
        · by_cases c1 : c ≤ 4611686018427387904 - sumV n.arcs
          · simp only [c0, c1, decide_true, Bool.and_true] at hok
            rw [hok] at v15 hv
            simp only [if_true] at hv
            rw [hv] at v14
            have hws : IntKind.i64.wrap (sumV n.arcs + c) = sumV n.arcs + c := w64 (by omega) (by omega)
            refine wa_regs ⟨_, by simp -implicitDefEqProofs [v2, v7, v8, v14, v15, c0, c1, hwb, hws]; rfl, rfl, by simp [Rg, v3, v7, v8]⟩
          · simp only [c0, c1, decide_true, decide_false, Bool.and_false] at hok
            rw [hok] at v15 hv
            simp only [Bool.false_eq_true, if_false] at hv
            rw [hv] at v14
            refine wa_regs ⟨_, by simp -implicitDefEqProofs [v2, v7, v8, v14, v15, c0, c1, hwb]; rfl, rfl, by simp [Rg, v3, v7, v8]⟩
        · simp only [c0, decide_false, Bool.false_and] at hok
          rw [hok] at v15 hv
          simp only [Bool.false_eq_true, if_false] at hv
          rw [hv] at v14
          refine wa_regs ⟨_, by simp -implicitDefEqProofs [v2, v7, v8, v14, v15, c0]; rfl, rfl, by simp [Rg, v3, v7, v8]⟩
    · clear v2 v3 v7 v8 v14 v15 τ
      rintro ⟨τ, H'⟩ ⟨hH', v3, v7, v8, v111, -⟩
      dsimp only at hH' v3 v7 v8 v111
      subst H'
      refine wa_if (t := false) (by simp [v111]) (fun h => by cases h) (fun _ => ?_)
      refine wa_sr ⟨_, by simp -implicitDefEqProofs [v3, r33w', hl]; rfl, ?_⟩
      refine wa_cut (fun _ => True) ?_ ?_
      · refine wa_for (n := n.arcs.length) (fun i (_ : Unit) => [(7, .int .i64 (sumV n.arcs)), (8, .bool (sumOk n.arcs)), (113, a)]) (fun i _ H'' => ∃ G, H'' = H7 ++ G) ()
          (by decide) (fun i hi => w64 (by omega) (by omega)) (by simp) (by simp) (by simp [Rg, v7, v8]) ⟨[], by simp⟩ (by simp) ?_ (fun _ _ _ _ _ => trivial)
        rintro i _ τ H8 hi t115 t114 ⟨x7, x8, x113, -⟩ ⟨G8, rfl⟩
        dsimp only [ev] at *
        obtain ⟨k, o, cc, hae, _, hrd, _⟩ := hA7.at hi
        have hmem := List.getElem_mem hi
        generalize n.arcs[i] = ar at *
        unfold Arc.cells at hrd
        refine wa_sr ⟨_, by simp -implicitDefEqProofs [x113, t115, hae, hi, hrd]; rfl, ?_⟩
        cases h8 : sumOk n.arcs
        · rw [h8] at x8
          refine wa_sr ⟨_, by simp -implicitDefEqProofs [x8]; rfl, ?_⟩
          refine wa_cond (t := false) (by simp) (fun h => by cases h) (fun _ => wa_skip ?_)
          exact ⟨by simp [t115], by simp [t114], (), by simp [Rg, x7, x8, x113, hae, h8], _, by simp; rfl⟩
        · rw [h8] at x8
          have hall := (sumOk_iff n.arcs).1 h8
          have hc0 := hall.1 ar hmem
          have hc1 : ar.cap ≤ sumV n.arcs := by rw [sumV_eq, if_pos h8]; exact cap_le n.arcs hall.1 ar hmem
          have n0' : ¬ ar.cap < 0 := by omega
          have n1' : ¬ sumV n.arcs < ar.cap := by omega
          refine wa_sr ⟨_, by simp -implicitDefEqProofs [x7, x8, n0', n1']; rfl, ?_⟩
          refine wa_cond (t := false) (by simp [n1']) (fun h => by cases h) (fun _ => wa_skip ?_)
          exact ⟨by simp [t115], by simp [t114], (), by simp [Rg, x7, x8, x113, hae, h8], _, by simp; rfl⟩
      · rintro ⟨τ, H8⟩ -
        refine wa_sr ⟨_, by simp [call_yes (k := 26) rfl]; rfl, ?_⟩
        exact wa_ret ⟨by simp, _, by simp; rfl, rfl⟩
end Go.Proofs.Ytpojdgeginigjaa
