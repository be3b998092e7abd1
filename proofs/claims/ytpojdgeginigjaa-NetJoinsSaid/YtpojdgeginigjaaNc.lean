/- Nets: the sum of capacities; whether a net may be. -/
import Derived.Test.YtpojdgeginigjaaNb
set_option linter.unusedSimpArgs false
set_option linter.unusedVariables false
namespace Go.Proofs.Ytpojdgeginigjaa
open Go Go.Ar
set_option maxRecDepth 100000

def sumT (left : Int) : List Ar.Arc → Option Int
  | [] => some left
  | x :: l => if x.cap < 0 ∨ left < x.cap then none else sumT (left - x.cap) l
def big : Int := 4611686018427387904
def sumV (l : List Ar.Arc) : Int := match sumT big l with | some r => big - r | none => 0
def sumOk (l : List Ar.Arc) : Bool := (sumT big l).isSome

theorem pc_sum {n : Net} {a : V} {H : Heap} (h : AL H a n.arcs) (hs : n.arcs.length ≤ 2 ^ 40) : Pc E 30 [NV n a] H (.tup [.int .i64 (sumV n.arcs), .bool (sumOk n.arcs)]) := Pc.mk fun G => by
  have hA := h.app G
  clear h
  generalize H ++ G = H1 at *
  refine call_E rfl nc30 rfl ?_
  unfold gc30 NV
  have hl : lenOf a = some n.arcs.length := Rw.len hA
  refine wa_sr ⟨_, by simp [len_cells hl]; rfl, ?_⟩
  refine wa_sr ⟨_, by simp; rfl, ?_⟩
  refine wa_sr ⟨_, by simp [hl]; rfl, ?_⟩
  have hres : ∀ x, x = (V.tup [.int .i64 (sumV n.arcs), .bool (sumOk n.arcs)]) → x = (V.tup [.int .i64 (sumV n.arcs), .bool (sumOk n.arcs)]) := fun _ h => h
  refine wa_cut (fun s => (∃ G', s.H = H1 ++ G') ∧ ∃ r, sumT big n.arcs = some r ∧ 0 ≤ r ∧ r ≤ big ∧ s.τ 4 = .int .i64 r) ?_ ?_
  · refine wa_for (n := n.arcs.length) (fun i (y : Int) => [(4, .int .i64 y), (8, a)]) (fun i y H' => (∃ G', H' = H1 ++ G') ∧ sumT big n.arcs = sumT y (n.arcs.drop i) ∧ 0 ≤ y ∧ y ≤ big) big
      (by decide) (fun i hi => w64 (by omega) (by omega)) (by simp) (by simp) (by simp [Rg, big]) ⟨⟨_, rfl⟩, by simp, by simp [big], by simp [big]⟩ (by simp) ?_ ?_
    · rintro i y τ H2 hi t10 t9 ⟨t4, t8, -⟩ ⟨⟨G', rfl⟩, hy, hy0, hy1⟩
      dsimp only [ev] at *
      obtain ⟨k, o, c, rfl, hk, hr, _⟩ := hA.at hi
      unfold Arc.cells at hr
      rw [List.drop_eq_getElem_cons hi] at hy
      generalize hx : n.arcs[i] = x at *
      have hr' := hr G'
      unfold big at hy1
      refine wa_sr ⟨_, by simp -implicitDefEqProofs [t8, t10, hi, hr, List.append_assoc]; rfl, ?_⟩
      simp only [sumT] at hy
      by_cases h1 : x.cap < 0
      · rw [if_pos (.inl h1)] at hy
        refine wa_sr ⟨_, by simp -implicitDefEqProofs [h1]; rfl, ?_⟩
        refine wa_if (t := true) (by simp) (fun _ => ?_) (fun h => by cases h)
        refine wa_sr ⟨_, by simp; rfl, ?_⟩
        exact wa_rt ⟨by simp, _, by simp; rfl, by simp [sumV, sumOk, hy], _, by simp; rfl⟩
      · by_cases h2 : y < x.cap
        · rw [if_pos (.inr h2)] at hy
          refine wa_sr ⟨_, by simp -implicitDefEqProofs [h1, h2, t4]; rfl, ?_⟩
          refine wa_if (t := true) (by simp) (fun _ => ?_) (fun h => by cases h)
          refine wa_sr ⟨_, by simp; rfl, ?_⟩
          exact wa_rt ⟨by simp, _, by simp; rfl, by simp [sumV, sumOk, hy], _, by simp; rfl⟩
        · rw [if_neg (by omega)] at hy
          refine wa_sr ⟨_, by simp -implicitDefEqProofs [h1, h2, t4]; rfl, ?_⟩
          refine wa_if (t := false) (by simp) (fun h => by cases h) (fun _ => ?_)
          have hw : IntKind.i64.wrap (y - x.cap) = y - x.cap := w64 (by omega) (by omega)
          refine wa_regs ⟨_, by simp -implicitDefEqProofs [t4, hw]; rfl, ?_⟩
          exact ⟨by simp [t10], by simp [t9], y - x.cap, by simp [Rg, t8], ⟨_, by simp; rfl⟩, hy, by omega, by unfold big; omega⟩
    · rintro y τ H2 ⟨t4, t8, -⟩ ⟨hG, hy, hy0, hy1⟩
      rw [List.drop_length] at hy
      exact ⟨hG, y, hy, hy0, hy1, t4⟩
  · rintro ⟨τ, H2⟩ ⟨⟨G', hG⟩, r, hr, hr0, hr1, t4⟩
    dsimp only at hG t4
    unfold big at hr1
    have hw : IntKind.i64.wrap (4611686018427387904 - r) = 4611686018427387904 - r := w64 (by omega) (by omega)
    refine wa_sr ⟨_, by simp [t4, hw]; rfl, ?_⟩
    exact wa_ret ⟨by simp, _, by simp; rfl, by simp only [pack, sumV, sumOk, hr]; rfl, G', by simpa using hG⟩
theorem pc_r6 {n : Net} {a : V} {H : Heap} (h : AL H a n.arcs) (hs : n.arcs.length ≤ 2 ^ 40) : Pc E 112 [NV n a] H (.bool (sumOk n.arcs)) := Pc.mk fun G => by
  refine call_E rfl nc112 rfl ?_
  unfold gc112
  have hl : lenOf a = some n.arcs.length := Rw.len h
  obtain ⟨f, hf⟩ := pc_sum h hs
  unfold NV at hf ⊢
  refine wa_sr ⟨_, by simp [len_cells hl]; rfl, ?_⟩
  refine wa_sr ⟨_, by simp -implicitDefEqProofs [hf]; rfl, ?_⟩
  refine wa_sr ⟨_, by simp; rfl, ?_⟩
  exact wa_ret ⟨by simp, _, by simp; rfl, by simp, _, by simp; rfl⟩

theorem of_ok {x : V} (hx : x.cells = some [x]) (H : Heap) : callL E (.f 109) [x] H = some (.fn 130 [] [.ptr H.length 0], H ++ [.cells [x] .ex]) := by
  have key : ∃ v H', callL E (.f 109) [x] H = some (v, H') ∧ v = .fn 130 [] [.ptr H.length 0] ∧ H' = H ++ [.cells [x] .ex] := by
    refine call_E rfl nc109 rfl ?_
    unfold gc109
    refine wa_sr ⟨_, by simp [hx]; rfl, ?_⟩
    refine wa_sr ⟨_, by simp; rfl, ?_⟩
    exact wa_ret ⟨by simp, _, by simp; rfl, rfl, rfl⟩
  obtain ⟨v, H', h, rfl, rfl⟩ := key
  exact h
/-- All rules. -/
theorem rules_ok (H : Heap) : ∃ b0, callL E (.f 77) [] H = some (.agg [.fn 105 [] [], .int .i64 10, .fn 106 [] [], .int .i64 11, .fn 107 [] [], .int .i64 12, .fn 130 [] [.ptr (H.length + 1) 0], .int .i64 13, .fn 130 [] [.ptr (H.length + 2) 0], .int .i64 14, .fn 112 [] [], .int .i64 15],
    H ++ [b0, .cells [.fn 110 [] []] .ex, .cells [.fn 111 [] []] .ex]) := by
  have key : ∃ v H', callL E (.f 77) [] H = some (v, H') ∧ v = .agg [.fn 105 [] [], .int .i64 10, .fn 106 [] [], .int .i64 11, .fn 107 [] [], .int .i64 12, .fn 130 [] [.ptr (H.length + 1) 0], .int .i64 13, .fn 130 [] [.ptr (H.length + 2) 0], .int .i64 14, .fn 112 [] [], .int .i64 15] ∧
      ∃ b0, H' = H ++ [b0, .cells [.fn 110 [] []] .ex, .cells [.fn 111 [] []] .ex] := by
    refine call_E rfl nc77 rfl ?_
    unfold gc77
    have h1 := fun H => of_ok (x := .fn 110 [] []) rfl H
    have h2 := fun H => of_ok (x := .fn 111 [] []) rfl H
    refine wa_sr ⟨_, by simp; rfl, ?_⟩
    refine wa_sr ⟨_, by simp -implicitDefEqProofs [h1, h2, fillc]; rfl, ?_⟩
    exact wa_ret ⟨by simp, _, by simp; rfl, by simp, _, rfl⟩
  obtain ⟨v, H', h, rfl, b0, rfl⟩ := key
  exact ⟨b0, h⟩

def chk (n : Net) : Int :=
  if okN n = false then 10 else if okM n = false then 11 else if okE n = false then 12 else if (n.arcs.all fun x => vtx n x.src && vtx n x.dst) = false then 13
  else if (n.arcs.all fun x => decide (0 ≤ x.cap)) = false then 14 else if sumOk n.arcs = false then 15 else 0

def chkL : List (Bool × Int) → Int
  | [] => 0
  | p :: l => if p.1 then chkL l else p.2
def rulesOf (n : Net) : List (Bool × Int) := [(okN n, 10), (okM n, 11), (okE n, 12), (n.arcs.all fun x => vtx n x.src && vtx n x.dst, 13), (n.arcs.all fun x => decide (0 ≤ x.cap), 14), (sumOk n.arcs, 15)]
theorem chk_L (n : Net) : chk n = chkL (rulesOf n) := by
  unfold chk rulesOf
  simp only [chkL]
  cases okN n <;> cases okM n <;> cases okE n <;> cases (n.arcs.all fun x => vtx n x.src && vtx n x.dst) <;> cases (n.arcs.all fun x => decide (0 ≤ x.cap)) <;> cases sumOk n.arcs <;> rfl

theorem pc_check {n : Net} {a : V} {H : Heap} (h : AL H a n.arcs) (hs : n.arcs.length ≤ 2 ^ 40) : Pc E 28 [NV n a] H (.int .i64 (chk n)) := Pc.mk fun G => by
  have hA := h.app G
  clear h
  generalize H ++ G = H1 at *
  refine call_E rfl nc28 rfl ?_
  unfold gc28
  have hl : lenOf a = some n.arcs.length := Rw.len hA
  obtain ⟨b0, hru⟩ := rules_ok (H1 ++ [nbox n a])
  unfold nbox at hru
  have hB := (hA.app [nbox n a]).app [b0, .cells [.fn 110 [] []] .ex, .cells [.fn 111 [] []] .ex]
  simp only [List.append_assoc, List.cons_append, List.nil_append, List.length_append, List.length_singleton] at hru hB
  rw [show H1.length + 1 + 1 = H1.length + 2 from rfl, show H1.length + 1 + 2 = H1.length + 3 from rfl] at hru
  obtain ⟨f1, g1⟩ := pc_r1 n a (H1 ++ (nbox n a :: [b0, .cells [.fn 110 [] []] .ex, .cells [.fn 111 [] []] .ex]))
  obtain ⟨f2, g2⟩ := pc_r2 hB
  obtain ⟨f3, g3⟩ := pc_r3 n a (H1 ++ (nbox n a :: [b0, .cells [.fn 110 [] []] .ex, .cells [.fn 111 [] []] .ex]))
  obtain ⟨f4, g4⟩ := pc_of hB hs (k1 := H1.length + 2) (s := 110) (fun G => by rw [List.append_assoc, rd_appn]; rfl) fun x _ H => pc_a4 n a x H
  obtain ⟨f5, g5⟩ := pc_of hB hs (k1 := H1.length + 3) (s := 111) (fun G => by rw [List.append_assoc, rd_appn]; rfl) fun x _ H => pc_a5 n a x H
  obtain ⟨f6, g6⟩ := pc_r6 hB hs
  have hbase : ∀ G, H1 ++ (nbox n a :: b0 :: Blk.cells [.fn 110 [] []] .ex :: Blk.cells [.fn 111 [] []] .ex :: G) = (H1 ++ (nbox n a :: [b0, .cells [.fn 110 [] []] .ex, .cells [.fn 111 [] []] .ex])) ++ G := fun G => by simp
  let R : List V := [.fn 105 [] [], .int .i64 10, .fn 106 [] [], .int .i64 11, .fn 107 [] [], .int .i64 12, .fn 130 [] [.ptr (H1.length + 2) 0], .int .i64 13, .fn 130 [] [.ptr (H1.length + 3) 0], .int .i64 14, .fn 112 [] [], .int .i64 15]
  have hrule : ∀ i, i < 6 → ∃ g cs e b, ∃ f : Heap → Heap, (R.drop (i * 2)).take 2 = [.fn g [] cs, .int .i64 e] ∧ (∀ G, callL E (.f g) (NV n a :: cs) (H1 ++ (nbox n a :: b0 :: Blk.cells [.fn 110 [] []] .ex :: Blk.cells [.fn 111 [] []] .ex :: G)) = some (.bool b, H1 ++ (nbox n a :: b0 :: Blk.cells [.fn 110 [] []] .ex :: Blk.cells [.fn 111 [] []] .ex :: (G ++ f G)))) ∧ (rulesOf n).drop i = (b, e) :: (rulesOf n).drop (i + 1) := by
    intro i hi
    rcases (by omega : i = 0 ∨ i = 1 ∨ i = 2 ∨ i = 3 ∨ i = 4 ∨ i = 5) with rfl | rfl | rfl | rfl | rfl | rfl
    · exact ⟨105, [], _, _, f1, rfl, fun G => by rw [hbase, g1, hbase (G ++ f1 G)], rfl⟩
    · exact ⟨106, [], _, _, f2, rfl, fun G => by rw [hbase, g2, hbase (G ++ f2 G)], rfl⟩
    · exact ⟨107, [], _, _, f3, rfl, fun G => by rw [hbase, g3, hbase (G ++ f3 G)], rfl⟩
    · exact ⟨130, _, _, _, f4, rfl, fun G => by rw [hbase, g4, hbase (G ++ f4 G)], rfl⟩
    · exact ⟨130, _, _, _, f5, rfl, fun G => by rw [hbase, g5, hbase (G ++ f5 G)], rfl⟩
    · exact ⟨112, [], _, _, f6, rfl, fun G => by rw [hbase, g6, hbase (G ++ f6 G)], rfl⟩
  have hRl : R.length = 12 := rfl
  unfold NV
  refine wa_sr ⟨_, by simp [len_cells hl]; rfl, ?_⟩
  refine wa_sr ⟨_, by simp -implicitDefEqProofs [hru]; rfl, ?_⟩
  change WP E _ ⟨_, H1 ++ (nbox n a :: b0 :: Blk.cells [.fn 110 [] []] .ex :: Blk.cells [.fn 111 [] []] .ex :: [])⟩ _
  refine wa_rg [(1, .ptr H1.length 0), (5, .agg R), (6, .int .i64 0)] (by simp [Rg, R]) ?_
  rintro τ ⟨t1, t5, t6, -⟩
  dsimp only at t1 t5 t6
  clear_value R
  refine wa_cut (fun s => chk n = 0 ∧ ∃ G', s.H = H1 ++ G') ?_ ?_
  · refine wa_for (n := 6) (fun i (_ : Unit) => [(1, .ptr H1.length 0), (5, .agg R)]) (fun i _ H' => (∃ G', H' = H1 ++ (nbox n a :: b0 :: Blk.cells [.fn 110 [] []] .ex :: Blk.cells [.fn 111 [] []] .ex :: G')) ∧ chk n = chkL ((rulesOf n).drop i)) ()
      (by decide) (fun i hi => w64 (by omega) (by omega)) t6 rfl (by simp [Rg, t1, t5]) ⟨⟨[], rfl⟩, chk_L n⟩ (by simp) ?_ ?_
    · rintro i _ τ H2 hi t6 - ⟨t1, t5, -⟩ ⟨⟨G', rfl⟩, hc⟩
      dsimp only [ev] at *
      obtain ⟨g, cs, e, b, f, h1, h2, h3⟩ := hrule i hi
      rw [h3] at hc
      simp only [chkL] at hc
      have h2' := fun G => h2 G
      have hi6 : (i : Int) < 6 := by omega
      unfold NV nbox at h2'
      unfold nbox
      refine wa_sr ⟨_, by simp -implicitDefEqProofs [t5, t6, hi6, h1]; rfl, ?_⟩
      refine wa_sr ⟨_, by simp -implicitDefEqProofs [t1, h2']; rfl, ?_⟩
      cases b
      · refine wa_cond (t := true) (by simp) (fun _ => ?_) (fun h => by cases h)
        refine wa_sr ⟨_, by simp; rfl, ?_⟩
        exact wa_ret ⟨by simp, _, by simp; rfl, by simp [hc], _, by simp; rfl⟩
      · refine wa_cond (t := false) (by simp) (fun h => by cases h) (fun _ => wa_skip ?_)
        exact ⟨by simp [t6], rfl, (), by simp [Rg, t1, t5], ⟨_, rfl⟩, by simpa using hc⟩
    · rintro _ τ H2 - ⟨⟨G', rfl⟩, hc⟩
      exact ⟨by rw [hc]; rfl, _, rfl⟩
  · rintro ⟨τ, H2⟩ ⟨hc, G', hG⟩
    dsimp only at hG
    refine wa_sr ⟨_, by simp; rfl, ?_⟩
    exact wa_ret ⟨by simp, _, by simp; rfl, by simp [hc], G', by simpa using hG⟩
end Go.Proofs.Ytpojdgeginigjaa
