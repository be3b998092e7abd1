/- The flat code of functions. -/
import Derived.Test.YtpojdgeginigjaaMC
import Derived.Test.YtpojdgeginigjaaMD
import Derived.Test.YtpojdgeginigjaaProg
import Derived.KernelRfl
set_option linter.unusedSimpArgs false
set_option linter.unusedVariables false
namespace Go.Proofs.Ytpojdgeginigjaa
open Go Go.Ar
set_option maxRecDepth 100000
def gc3 : MC := (.seq (.reg [⟨(.some 1), (.box 4 (.t 0)), .none⟩, ⟨(.some 2), (.mv (.c (.bool .false))), .none⟩]) (.seq (.reg [⟨(.some 12), (.fadr 3 (.t 1)), .none⟩, ⟨(.some 13), (.load 1 .false (.t 12)), .none⟩, ⟨(.some 14), (.len (.t 13)), .none⟩, ⟨(.some 15), (.bin .gtr (.t 14) (.c (.int .i64 300))), .none⟩]) (.seq (.cond (.t 15) (.seq (.reg [⟨(.some 16), (.call (.c (.fn 26 [] [])) []), .none⟩, ⟨(.some 2), (.mv (.t 16)), .none⟩]) .ret) .skip) (.seq (.reg [⟨(.some 17), (.load 4 .true (.t 1)), .none⟩, ⟨(.some 18), (.call (.c (.fn 27 [] [])) [(.t 17)]), .none⟩, ⟨(.some 3), (.alloc [(.int .i64 0), (.int .i64 0), (.int .i64 0), .nils]), .none⟩, ⟨.none, (.store 4 (.t 3) (.t 18)), .none⟩]) (.seq (.reg [⟨(.some 4), (.mv (.c (.int .i64 0))), .none⟩]) (.seq (.reg [⟨(.some 19), (.mv (.c (.int .i64 0))), .none⟩]) (.seq (.block 0 (.loop (.seq (.reg [⟨(.some 20), (.bin .lss (.t 19) (.c (.int .i64 7))), .none⟩]) (.seq (.cond (.t 20) .skip (.exit 0)) (.seq (.block 1 (.seq (.reg [⟨(.some 21), (.load 4 .true (.t 3)), .none⟩, ⟨(.some 22), (.call (.c (.fn 28 [] [])) [(.t 21)]), .none⟩, ⟨(.some 5), (.mv (.t 22)), .none⟩]) (.seq (.reg [⟨(.some 23), (.mv (.t 5)), .none⟩, ⟨(.some 24), (.bin .eql (.t 23) (.c (.int .i64 0))), .none⟩]) (.seq (.cond (.t 24) (.seq (.reg [⟨(.some 25), (.call (.c (.fn 26 [] [])) []), .none⟩, ⟨(.some 2), (.mv (.t 25)), .none⟩]) .ret) .skip) (.seq (.reg [⟨(.some 26), (.mv (.t 5)), .none⟩, ⟨(.some 27), (.mv (.t 4)), .none⟩, ⟨(.some 28), (.bin .leq (.t 26) (.t 27)), .none⟩, ⟨(.some 29), (.mv (.t 28)), .none⟩, ⟨(.some 30), (.mv (.t 5)), (.some (29, .false))⟩, ⟨(.some 31), (.bin .lss (.t 30) (.c (.int .i64 10))), (.some (29, .false))⟩, ⟨(.some 32), (.pick (.t 29) (.c (.bool .true)) (.t 31)), .none⟩, ⟨(.some 33), (.mv (.t 32)), .none⟩, ⟨(.some 34), (.mv (.t 5)), (.some (33, .false))⟩, ⟨(.some 35), (.bin .gtr (.t 34) (.c (.int .i64 15))), (.some (33, .false))⟩, ⟨(.some 36), (.pick (.t 33) (.c (.bool .true)) (.t 35)), .none⟩]) (.seq (.cond (.t 36) (.seq (.reg [⟨(.some 2), (.mv (.c (.bool .false))), .none⟩]) .ret) .skip) (.seq (.reg [⟨(.some 37), (.mv (.t 5)), .none⟩, ⟨(.some 4), (.mv (.t 37)), .none⟩]) (.seq (.reg [⟨(.some 38), (.mv (.t 5)), .none⟩]) (.block 2 (.seq (.reg [⟨(.some 40), (.bin .eql (.t 38) (.c (.int .i64 10))), .none⟩, ⟨(.some 39), (.mv (.t 40)), .none⟩]) (.cond (.t 39) (.reg [⟨(.some 41), (.fadr 0 (.t 3)), .none⟩, ⟨(.some 42), (.load 1 .false (.t 41)), .none⟩, ⟨(.some 43), (.call (.c (.fn 29 [] [])) [(.t 42), (.c (.int .i64 4000))]), .none⟩, ⟨(.some 44), (.bin .add (.c (.int .i64 2)) (.t 43)), .none⟩, ⟨(.some 45), (.fadr 0 (.t 3)), .none⟩, ⟨.none, (.store 1 (.t 45) (.t 44)), .none⟩]) (.seq (.reg [⟨(.some 47), (.bin .eql (.t 38) (.c (.int .i64 12))), .none⟩, ⟨(.some 46), (.mv (.t 47)), .none⟩]) (.cond (.t 46) (.reg [⟨(.some 48), (.fadr 1 (.t 3)), .none⟩, ⟨.none, (.store 1 (.t 48) (.c (.int .i64 0))), .none⟩, ⟨(.some 49), (.fadr 2 (.t 3)), .none⟩, ⟨.none, (.store 1 (.t 49) (.c (.int .i64 1))), .none⟩]) (.seq (.reg [⟨(.some 51), (.bin .eql (.t 38) (.c (.int .i64 13))), .none⟩, ⟨(.some 50), (.mv (.t 51)), .none⟩]) (.cond (.t 50) (.seq (.reg [⟨(.some 52), (.fadr 3 (.t 3)), .none⟩, ⟨(.some 53), (.load 1 .false (.t 52)), .none⟩, ⟨(.some 54), (.len (.t 53)), .none⟩, ⟨(.some 55), (.mv (.c (.int .i64 0))), .none⟩]) (.block 3 (.loop (.seq (.reg [⟨(.some 56), (.bin .lss (.t 55) (.t 54)), .none⟩]) (.seq (.cond (.t 56) .skip (.exit 3)) (.seq (.block 4 (.seq (.reg [⟨(.some 57), (.mv (.t 55)), .none⟩, ⟨(.some 58), (.iadr 3 (.t 53) (.t 55)), .none⟩, ⟨(.some 59), (.load 3 .true (.t 58)), .none⟩, ⟨(.some 7), (.alloc [(.int .i64 0), (.int .i64 0), (.int .i64 0)]), .none⟩, ⟨(.some 6), (.mv (.t 57)), .none⟩, ⟨.none, (.store 3 (.t 7) (.t 59)), .none⟩]) (.dreg 0 [(.plain, ⟨(.some 60), (.fadr 3 (.t 3)), .none⟩), (.plain, ⟨(.some 61), (.load 1 .false (.t 60)), .none⟩), (.plain, ⟨(.some 62), (.mv (.t 6)), .none⟩), (.plain, ⟨(.some 63), (.fadr 3 (.t 3)), .none⟩), (.plain, ⟨(.some 64), (.load 1 .false (.t 63)), .none⟩), (.plain, ⟨(.some 65), (.mv (.t 6)), .none⟩), (.plain, ⟨(.some 66), (.fadr 0 (.t 7)), .none⟩), (.plain, ⟨(.some 67), (.load 1 .false (.t 66)), .none⟩), (.plain, ⟨(.some 68), (.fadr 0 (.t 3)), .none⟩), (.plain, ⟨(.some 69), (.load 1 .false (.t 68)), .none⟩), ((.pcall []), ⟨(.some 70), (.call (.c (.fn 29 [] [])) [(.t 67), (.t 69)]), .none⟩), (.plain, ⟨(.some 71), (.fadr 1 (.t 7)), .none⟩), (.plain, ⟨(.some 72), (.load 1 .false (.t 71)), .none⟩), (.plain, ⟨(.some 73), (.fadr 0 (.t 3)), .none⟩), (.plain, ⟨(.some 74), (.load 1 .false (.t 73)), .none⟩), ((.pcall []), ⟨(.some 75), (.call (.c (.fn 29 [] [])) [(.t 72), (.t 74)]), .none⟩), (.plain, ⟨(.some 76), (.iadr 3 (.t 61) (.t 62)), .none⟩), (.plain, ⟨(.some 77), (.fadr 0 (.t 76)), .none⟩), (.plain, ⟨.none, (.store 1 (.t 77) (.t 70)), .none⟩), (.plain, ⟨(.some 78), (.iadr 3 (.t 64) (.t 65)), .none⟩), (.plain, ⟨(.some 79), (.fadr 1 (.t 78)), .none⟩), (.plain, ⟨.none, (.store 1 (.t 79) (.t 75)), .none⟩)] [(.ne (.t 63) (.t 77)), (.lt (.t 71)), (.lt (.t 73))]))) (.reg [⟨(.some 80), (.bin .add (.t 55) (.c (.int .i64 1))), .none⟩, ⟨(.some 55), (.mv (.t 80)), .none⟩]))))))) (.seq (.reg [⟨(.some 82), (.bin .eql (.t 38) (.c (.int .i64 14))), .none⟩, ⟨(.some 81), (.mv (.t 82)), .none⟩]) (.cond (.t 81) (.seq (.reg [⟨(.some 83), (.fadr 3 (.t 3)), .none⟩, ⟨(.some 84), (.load 1 .false (.t 83)), .none⟩, ⟨(.some 85), (.len (.t 84)), .none⟩, ⟨(.some 86), (.mv (.c (.int .i64 0))), .none⟩]) (.block 5 (.loop (.seq (.reg [⟨(.some 87), (.bin .lss (.t 86) (.t 85)), .none⟩]) (.seq (.cond (.t 87) .skip (.exit 5)) (.seq (.block 6 (.seq (.reg [⟨(.some 88), (.mv (.t 86)), .none⟩, ⟨(.some 89), (.iadr 3 (.t 84) (.t 86)), .none⟩, ⟨(.some 90), (.load 3 .true (.t 89)), .none⟩, ⟨(.some 9), (.alloc [(.int .i64 0), (.int .i64 0), (.int .i64 0)]), .none⟩, ⟨(.some 8), (.mv (.t 88)), .none⟩, ⟨.none, (.store 3 (.t 9) (.t 90)), .none⟩]) (.reg [⟨(.some 91), (.fadr 3 (.t 3)), .none⟩, ⟨(.some 92), (.load 1 .false (.t 91)), .none⟩, ⟨(.some 93), (.mv (.t 8)), .none⟩, ⟨(.some 94), (.fadr 2 (.t 9)), .none⟩, ⟨(.some 95), (.load 1 .false (.t 94)), .none⟩, ⟨(.some 96), (.mx (.t 95) (.c (.int .i64 0))), .none⟩, ⟨(.some 97), (.iadr 3 (.t 92) (.t 93)), .none⟩, ⟨(.some 98), (.fadr 2 (.t 97)), .none⟩, ⟨.none, (.store 1 (.t 98) (.t 96)), .none⟩]))) (.reg [⟨(.some 99), (.bin .add (.t 86) (.c (.int .i64 1))), .none⟩, ⟨(.some 86), (.mv (.t 99)), .none⟩]))))))) (.seq (.reg [⟨(.some 101), (.bin .eql (.t 38) (.c (.int .i64 15))), .none⟩, ⟨(.some 100), (.mv (.t 101)), .none⟩]) (.cond (.t 100) (.seq (.reg [⟨(.some 102), (.fadr 3 (.t 3)), .none⟩, ⟨(.some 103), (.load 1 .false (.t 102)), .none⟩, ⟨(.some 104), (.len (.t 103)), .none⟩, ⟨(.some 105), (.mv (.c (.int .i64 0))), .none⟩]) (.block 7 (.loop (.seq (.reg [⟨(.some 106), (.bin .lss (.t 105) (.t 104)), .none⟩]) (.seq (.cond (.t 106) .skip (.exit 7)) (.seq (.block 8 (.seq (.reg [⟨(.some 107), (.mv (.t 105)), .none⟩, ⟨(.some 108), (.iadr 3 (.t 103) (.t 105)), .none⟩, ⟨(.some 109), (.load 3 .true (.t 108)), .none⟩, ⟨(.some 11), (.alloc [(.int .i64 0), (.int .i64 0), (.int .i64 0)]), .none⟩, ⟨(.some 10), (.mv (.t 107)), .none⟩, ⟨.none, (.store 3 (.t 11) (.t 109)), .none⟩]) (.reg [⟨(.some 110), (.fadr 3 (.t 3)), .none⟩, ⟨(.some 111), (.load 1 .false (.t 110)), .none⟩, ⟨(.some 112), (.mv (.t 10)), .none⟩, ⟨(.some 113), (.fadr 2 (.t 11)), .none⟩, ⟨(.some 114), (.load 1 .false (.t 113)), .none⟩, ⟨(.some 115), (.bin .shr (.t 114) (.c (.int .u64 10))), .none⟩, ⟨(.some 116), (.iadr 3 (.t 111) (.t 112)), .none⟩, ⟨(.some 117), (.fadr 2 (.t 116)), .none⟩, ⟨.none, (.store 1 (.t 117) (.t 115)), .none⟩]))) (.reg [⟨(.some 118), (.bin .add (.t 105) (.c (.int .i64 1))), .none⟩, ⟨(.some 105), (.mv (.t 118)), .none⟩]))))))) .skip))))))))))))))))))) (.reg [⟨(.some 119), (.bin .add (.t 19) (.c (.int .i64 1))), .none⟩, ⟨(.some 19), (.mv (.t 119)), .none⟩])))))) (.seq (.reg [⟨(.some 2), (.mv (.c (.bool .false))), .none⟩]) .ret))))))))
theorem nc3 : nc Try.prog 3 = some (1, [(.t 2)], gc3) := by kernel_rfl
end Go.Proofs.Ytpojdgeginigjaa
/- NetFirst: the walk. -/
set_option linter.unusedSimpArgs false
set_option linter.unusedVariables false
namespace Go.Proofs.Ytpojdgeginigjaa
open Go Go.Ar
set_option maxRecDepth 100000

theorem Hp_nil (H G : Heap) : H ++ G ++ [] = H ++ G := by simp

theorem among_p {x n : Int} (h1 : 1 ≤ n) (h2 : n ≤ 2 ^ 40) (H : Heap) : pcall (callL E) [] (.f 29) [.int .i64 x, .int .i64 n] H = some (.int .i64 (x % n), H) := pcall_same (among_ok h1 h2 _)

set_option maxHeartbeats 4000000 in
theorem first_law {H : Heap} {n : Net} {a : V} (h : AL H a n.arcs) (hx : Sl a) (hcap : ∀ x, x ∈ n.arcs → x.cap ≤ 9223372036854775807) :
    ∃ v H', callL E (.f 3) [NV n a] H = some (v, H') ∧ v = .bool true := by
  refine call_E rfl nc3 rfl ?_
  unfold gc3
  have hl : lenOf a = some n.arcs.length := Rw.len h
  have hA := h.app [nbox n a]
  unfold NV
  refine wa_sr ⟨_, by simp [len_cells hl]; rfl, ?_⟩
  refine wa_sr ⟨_, by simp [hl]; rfl, ?_⟩
  by_cases hbig : 300 < n.arcs.length
  · have hb' : (300 : Int) < n.arcs.length := by omega
    refine wa_if (t := true) (by simp; omega) (fun _ => ?_) (fun h => by cases h)
    refine wa_sr ⟨_, by simp [call_yes (k := 26) rfl]; rfl, ?_⟩
    exact wa_rt ⟨by simp, _, by simp; rfl, rfl⟩
  refine wa_if (t := false) (by simp; omega) (fun h => by cases h) (fun _ => ?_)
  obtain ⟨x, H1, c1, ⟨G1, hG1⟩, c3⟩ := copy_ok hA hx (by omega)
  unfold nbox NV at c1
  have hxs : x.scalar = true := len_scalar (Rw.len c3.al)
  refine wa_sr ⟨_, by
    simp -implicitDefEqProofs [c1, hxs]
    rfl, ?_⟩
  have hm0 : MB (H ++ [nbox n a]).length (H1 ++ [nbox n x]) H1.length n x := ⟨by rw [hG1]; simp, by simp, (c3.app _), fun k hk => by have := Rw.lt c3.al k hk; omega⟩
  change WP E _ ⟨_, H1 ++ [nbox n x]⟩ _
  generalize (H ++ [nbox n a]).length = B at *
  generalize hH2 : H1 ++ [nbox n x] = H2 at *
  generalize hk3 : H1.length = k3 at *
  refine wa_sr ⟨_, by simp; rfl, ?_⟩
  refine wa_sr ⟨_, by simp; rfl, ?_⟩
  have hF0 : FirstI 0 0 n := ⟨.inl ⟨rfl, rfl⟩, (rules_iff n 0).2 ⟨by omega, by omega, by omega, by omega, by omega, by omega⟩, by omega, hcap⟩
  refine wa_cut (fun _ => False) ?_ (fun _ h => h.elim)
  refine wa_for (n := 7) (fun i (y : Net × V × Int) => [(3, .ptr k3 0), (4, .int .i64 y.2.2)]) (fun i y H' => FirstI i y.2.2 y.1 ∧ MB B H' k3 y.1 y.2.1) (n, x, 0)
    (by decide) (fun i hi => w64 (by omega) (by omega)) (by simp) (by simp) (by simp [Rg]) ⟨hF0, hm0⟩ (by simp) ?_ ?_
  case refine_2 =>
    rintro ⟨m, x, last⟩ τ H3 _ ⟨hF, _⟩
    have := hF.hi
    simp only at this
    omega
  rintro i ⟨m, x, last⟩ τ H3 hi t19 - ⟨t3, t4, -⟩ ⟨hF, hM⟩
  dsimp only [ev] at *
  clear hl hA c1 c3 hxs hm0 hH2 hk3 hF0 hG1 H2 H1 G1
  have hml := hF.len
  obtain ⟨G3, hc⟩ := (pc_check hM.own.al (by omega)).run
  have hr4 := hM.rd []
  rw [List.append_nil] at hr4
  have hM3 := hM.app G3
  refine wa_sr ⟨_, by
    simp -implicitDefEqProofs [t3, hr4]
    rw [show V.agg [V.int .i64 m.N, .int .i64 m.S, .int .i64 m.T, x] = NV m x from rfl, hc]
    rfl, ?_⟩
  dsimp only
  generalize H3 ++ G3 = H4 at *
  clear hc hr4 hM
  refine wa_rg [(3, .ptr k3 0), (4, .int .i64 last), (5, .int .i64 (chk m)), (19, .int .i64 i)] (by simp [Rg, t3, t4, t19]) ?_
  rintro τ1 ⟨u3, u4, u5, u19, -⟩
  dsimp only at u3 u4 u5 u19
  clear t3 t4 t19 τ
  refine wa_sr ⟨_, by simp [u5]; rfl, ?_⟩
  by_cases h0 : chk m = 0
  · refine wa_if (t := true) (by simp [h0]) (fun _ => ?_) (fun h => by cases h)
    refine wa_sr ⟨_, by simp [call_yes (k := 26) rfl]; rfl, ?_⟩
    exact wa_rt ⟨by simp, _, by simp; rfl, rfl⟩
  obtain ⟨e1, e2, e3, e4⟩ := first_step hF h0
  have n1 : ¬ chk m ≤ last := by omega
  have n2 : ¬ chk m < 10 := by omega
  have n3 : ¬ 15 < chk m := by omega
  refine wa_if (t := false) (by simp [h0]) (fun h => by cases h) (fun _ => ?_)
  refine wa_sr ⟨_, by simp -implicitDefEqProofs [u4, u5, n1, n2, n3]; rfl, ?_⟩
  refine wa_if (t := false) (by simp [n3]) (fun h => by cases h) (fun _ => ?_)
  refine wa_sr ⟨_, by simp [u5]; rfl, ?_⟩
  refine wa_sr ⟨_, by simp [u5]; rfl, ?_⟩
  refine wa_rg [(3, .ptr k3 0), (4, .int .i64 (chk m)), (38, .int .i64 (chk m)), (19, .int .i64 i)] (by simp [Rg, u3, u4, u5, u19]) ?_
  rintro τ ⟨v3, v4, v38, v19, -⟩
  dsimp only at v3 v4 v38 v19
  clear u3 u4 u5 u19 τ1
  have hwd : ∀ i : Nat, i < m.arcs.length → IntKind.i64.wrap ((i : Int) + 1) = (i : Int) + 1 := fun i hi => w64 (by omega) (by omega)
  have r3 := hM3.rd3 []
  have r0 := hM3.rd0 []
  rw [List.append_nil] at r3 r0
  have hxl : lenOf x = some m.arcs.length := Rw.len hM3.own.al
  refine wa_block ?_
  rcases e4 with ⟨ec, hF'⟩ | ⟨ec, hF'⟩ | ⟨ec, hN1, hN2, hF'⟩ | ⟨ec, hF'⟩ | ⟨ec, hF'⟩
  · rw [ec] at v38 v4
    have hw : IntKind.i64.wrap (2 + m.N % 4000) = 2 + m.N % 4000 := w64 (by omega) (by omega)
    obtain ⟨H5, w5, hM5⟩ : ∃ X, wr H4 k3 0 [.int .i64 (2 + m.N % 4000)] = some X ∧ MB B X k3 (fixN m) x :=
      ⟨_, wr1 (o := 0) (v := .int .i64 (2 + m.N % 4000)) (cs := [.int .i64 m.N, .int .i64 m.S, .int .i64 m.T, x]) hM3.box rfl (by simp) rfl, hM3.put (m' := fixN m) rfl⟩
    refine wa_sr ⟨_, by simp [v38]; rfl, ?_⟩
    refine wa_cond (t := true) (by simp) (fun _ => ?_) (fun h => by cases h)
    refine wa_regs ⟨_, by simp -implicitDefEqProofs [v3, r0, among_ok, hw, w5]; rfl, ?_⟩
    exact ⟨by simp [v19], rfl, (fixN m, x, 10), by simp [Rg, v3, v4], hF', hM5⟩
  · rw [ec] at v38 v4
    obtain ⟨H5, w5, hM5⟩ : ∃ X, wr H4 k3 1 [.int .i64 0] = some X ∧ MB B X k3 { m with S := 0 } x :=
      ⟨_, wr1 (o := 1) (v := .int .i64 0) (cs := [.int .i64 m.N, .int .i64 m.S, .int .i64 m.T, x]) hM3.box rfl (by simp) rfl, hM3.put (m' := { m with S := 0 }) rfl⟩
    obtain ⟨H6, w6, hM6⟩ : ∃ X, wr H5 k3 2 [.int .i64 1] = some X ∧ MB B X k3 (fixE m) x :=
      ⟨_, wr1 (o := 2) (v := .int .i64 1) (cs := [.int .i64 m.N, .int .i64 0, .int .i64 m.T, x]) hM5.box rfl (by simp) rfl, hM5.put (m' := fixE m) rfl⟩
    refine wa_sr ⟨_, by simp [v38]; rfl, ?_⟩
    refine wa_cond (t := false) (by simp) (fun h => by cases h) (fun _ => ?_)
    refine wa_sr ⟨_, by simp [v38]; rfl, ?_⟩
    refine wa_cond (t := true) (by simp) (fun _ => ?_) (fun h => by cases h)
    refine wa_regs ⟨_, by simp -implicitDefEqProofs [v3, w5, w6]; rfl, ?_⟩
    exact ⟨by simp [v19], rfl, (fixE m, x, 12), by simp [Rg, v3, v4], hF', hM6⟩
  · rw [ec] at v38 v4
    refine wa_sr ⟨_, by simp [v38]; rfl, ?_⟩
    refine wa_cond (t := false) (by simp) (fun h => by cases h) (fun _ => ?_)
    refine wa_sr ⟨_, by simp [v38]; rfl, ?_⟩
    refine wa_cond (t := false) (by simp) (fun h => by cases h) (fun _ => ?_)
    refine wa_sr ⟨_, by simp [v38]; rfl, ?_⟩
    refine wa_cond (t := true) (by simp) (fun _ => ?_) (fun h => by cases h)
    refine wa_sr ⟨_, by simp [v3, r3, hxl]; rfl, ?_⟩
    let g : Ar.Arc → Ar.Arc := fun a => ⟨a.src % m.N, a.dst % m.N, a.cap⟩
    refine wa_for (n := m.arcs.length) (fun j (_ : Unit) => [(3, .ptr k3 0), (4, .int .i64 13), (19, .int .i64 i), (53, x)]) (fun j _ H' => MB B H' k3 { m with arcs := mixL g m.arcs j } x) ()
      (by decide) hwd (by simp) (by simp) (by simp [Rg, v3, v4, v19]) (by simpa [mixL] using hM3) (by simp) ?_ ?_
    · rintro j _ τ H5 hj t55 t54 ⟨v3, v4, v19, v53, -⟩ hM5
      dsimp only [ev] at *
      obtain ⟨k, hxe, hkB, hk5, hrd, _⟩ := hM5.arc (i := j) (by rw [mixL_length _ _ _ (by omega)]; exact hj)
      simp only [mixL_length _ _ _ (Nat.le_of_lt hj)] at hxe
      simp only [mixL_get g _ _ hj] at hrd
      have hrd0 := hrd []
      rw [List.append_nil] at hrd0
      unfold Arc.cells at hrd0
      refine wa_sr ⟨_, by simp -implicitDefEqProofs [v53, t55, hxe, hj, hrd0]; rfl, ?_⟩
      have hM6 := hM5.app [.cells (m.arcs[j].cells) .ex]
      have hk7 : ∀ o, rd (H5 ++ [.cells (m.arcs[j].cells) .ex]) H5.length o = m.arcs[j].cells[o]? := fun o => by simp
      change WP E _ ⟨_, H5 ++ [.cells (m.arcs[j].cells) .ex]⟩ _
      have hl6 : (H5 ++ [Blk.cells (m.arcs[j].cells) .ex]).length = H5.length + 1 := by simp
      generalize H5 ++ [Blk.cells (m.arcs[j].cells) .ex] = H6 at *
      generalize hk7e : H5.length = k7 at *
      have q0 := hM6.rd0 []
      have q3 := hM6.rd3 []
      rw [List.append_nil] at q0 q3
      dsimp only at q0
      have p0 : rd H6 k7 0 = some (.int .i64 m.arcs[j].src) := hk7 0
      have p1 : rd H6 k7 1 = some (.int .i64 m.arcs[j].dst) := hk7 1
      obtain ⟨k', hxe', _, _, _, hwr⟩ := hM6.arc (i := j) (by simp only; rw [mixL_length _ _ _ (by omega)]; exact hj)
      rw [hxe] at hxe'
      simp only [mixL_length _ _ _ (Nat.le_of_lt hj)] at hxe'
      cases hxe'
      simp only [mixL_get g _ _ hj] at hwr
      have hM6l := hM6.lt
      obtain ⟨H7, w7, l7, hM7, _⟩ := hwr 0 (.int .i64 (m.arcs[j].src % m.N)) ⟨m.arcs[j].src % m.N, m.arcs[j].dst, m.arcs[j].cap⟩ (by omega) rfl rfl
      obtain ⟨k'', hxe'', _, _, _, hwr2⟩ := hM7.arc (i := j) (by simp; rw [mixL_length _ _ _ (by omega)]; exact hj)
      rw [hxe] at hxe''
      simp only [List.length_set, mixL_length _ _ _ (Nat.le_of_lt hj)] at hxe''
      cases hxe''
      obtain ⟨H8, w8, l8, hM8, _⟩ := hwr2 1 (.int .i64 (m.arcs[j].dst % m.N)) (g m.arcs[j]) (by omega) rfl (by simp [Arc.cells, g])
      simp only [List.set_set, mixL_set g _ _ hj] at hM8
      have hne : k3 ≠ k := fun e => hM6.ne k (by rw [hxe]; rfl) e.symm
      simp only [Nat.add_zero] at w7
      refine WP.mono (wa_dreg (Q := fun e s => e = .normal ∧ s.H = H8 ∧ Rg s.τ [(3, .ptr k3 0), (4, .int .i64 13), (19, .int .i64 i), (53, x), (55, .int .i64 j), (54, .int .i64 m.arcs.length)]) (s' := _) (by
        have hap := fun x H => among_p (x := x) (n := m.N) (by omega) (by omega) H
        simp -implicitDefEqProofs [dinsL, dins, v3, q0, q3, p0, p1, hap, hxe, hj, w7, w8]
        rfl) (by simp [Chk.ok, V.blk?]; omega) ⟨rfl, rfl, by simp [Rg, v3, v4, v19, v53, t55, t54, hxe]⟩) ?_
      rintro e ⟨τ, H'⟩ ⟨rfl, hH', x3, x4, x19, x53, x55, x54, -⟩
      dsimp only at hH' x3 x4 x19 x53 x55 x54
      subst hH'
      exact ⟨x55, x54, (), by simp [Rg, x3, x4, x19, x53], hM8⟩
    · rintro _ τ H5 ⟨v3, v4, v19, v53, -⟩ hM5
      rw [mixL_full] at hM5
      exact ⟨by simp [v19], rfl, (fixA m, x, 13), by simp [Rg, v3, v4], hF', hM5⟩
  · rw [ec] at v38 v4
    refine wa_sr ⟨_, by simp [v38]; rfl, ?_⟩
    refine wa_cond (t := false) (by simp) (fun h => by cases h) (fun _ => ?_)
    refine wa_sr ⟨_, by simp [v38]; rfl, ?_⟩
    refine wa_cond (t := false) (by simp) (fun h => by cases h) (fun _ => ?_)
    refine wa_sr ⟨_, by simp [v38]; rfl, ?_⟩
    refine wa_cond (t := false) (by simp) (fun h => by cases h) (fun _ => ?_)
    refine wa_sr ⟨_, by simp [v38]; rfl, ?_⟩
    refine wa_cond (t := true) (by simp) (fun _ => ?_) (fun h => by cases h)
    refine wa_sr ⟨_, by simp [v3, r3, hxl]; rfl, ?_⟩
    let g : Ar.Arc → Ar.Arc := fun a => ⟨a.src, a.dst, if a.cap < 0 then 0 else a.cap⟩
    refine wa_for (n := m.arcs.length) (fun j (_ : Unit) => [(3, .ptr k3 0), (4, .int .i64 14), (19, .int .i64 i), (84, x)]) (fun j _ H' => MB B H' k3 { m with arcs := mixL g m.arcs j } x) ()
      (by decide) hwd (by simp) (by simp) (by simp [Rg, v3, v4, v19]) (by simpa [mixL] using hM3) (by simp) ?_ ?_
    · rintro j _ τ H5 hj t86 t85 ⟨v3, v4, v19, v53, -⟩ hM5
      dsimp only [ev] at *
      obtain ⟨k, hxe, hkB, hk5, hrd, _⟩ := hM5.arc (i := j) (by rw [mixL_length _ _ _ (by omega)]; exact hj)
      simp only [mixL_length _ _ _ (Nat.le_of_lt hj)] at hxe
      simp only [mixL_get g _ _ hj] at hrd
      have hrd0 := hrd []
      rw [List.append_nil] at hrd0
      unfold Arc.cells at hrd0
      refine wa_sr ⟨_, by simp -implicitDefEqProofs [v53, t86, hxe, hj, hrd0]; rfl, ?_⟩
      have hM6 := hM5.app [.cells (m.arcs[j].cells) .ex]
      have hk7 : ∀ o, rd (H5 ++ [.cells (m.arcs[j].cells) .ex]) H5.length o = m.arcs[j].cells[o]? := fun o => by simp
      change WP E _ ⟨_, H5 ++ [.cells (m.arcs[j].cells) .ex]⟩ _
      generalize H5 ++ [Blk.cells (m.arcs[j].cells) .ex] = H6 at *
      generalize hk7e : H5.length = k7 at *
      have q3 := hM6.rd3 []
      rw [List.append_nil] at q3
      have p2 : rd H6 k7 2 = some (.int .i64 m.arcs[j].cap) := hk7 2
      obtain ⟨k', hxe', _, _, _, hwr⟩ := hM6.arc (i := j) (by simp only; rw [mixL_length _ _ _ (by omega)]; exact hj)
      rw [hxe] at hxe'
      simp only [mixL_length _ _ _ (Nat.le_of_lt hj)] at hxe'
      cases hxe'
      simp only [mixL_get g _ _ hj] at hwr
      obtain ⟨H7, w7, l7, hM7, _⟩ := hwr 2 (.int .i64 (if m.arcs[j].cap < 0 then 0 else m.arcs[j].cap)) (g m.arcs[j]) (by omega) rfl (by simp [Arc.cells, g])
      simp only [mixL_set g _ _ hj] at hM7
      refine wa_regs ⟨_, by simp -implicitDefEqProofs [v3, q3, p2, hxe, hj, w7]; rfl, ?_⟩
      exact ⟨by simp [t86], by simp [t85], (), by simp [Rg, v3, v4, v19, v53, hxe], hM7⟩
    · rintro _ τ H5 ⟨v3, v4, v19, v53, -⟩ hM5
      rw [mixL_full] at hM5
      exact ⟨by simp [v19], rfl, (fixC m, x, 14), by simp [Rg, v3, v4], hF', hM5⟩
  · rw [ec] at v38 v4
    refine wa_sr ⟨_, by simp [v38]; rfl, ?_⟩
    refine wa_cond (t := false) (by simp) (fun h => by cases h) (fun _ => ?_)
    refine wa_sr ⟨_, by simp [v38]; rfl, ?_⟩
    refine wa_cond (t := false) (by simp) (fun h => by cases h) (fun _ => ?_)
    refine wa_sr ⟨_, by simp [v38]; rfl, ?_⟩
    refine wa_cond (t := false) (by simp) (fun h => by cases h) (fun _ => ?_)
    refine wa_sr ⟨_, by simp [v38]; rfl, ?_⟩
    refine wa_cond (t := false) (by simp) (fun h => by cases h) (fun _ => ?_)
    refine wa_sr ⟨_, by simp [v38]; rfl, ?_⟩
    refine wa_cond (t := true) (by simp) (fun _ => ?_) (fun h => by cases h)
    refine wa_sr ⟨_, by simp [v3, r3, hxl]; rfl, ?_⟩
    let g : Ar.Arc → Ar.Arc := fun a => ⟨a.src, a.dst, a.cap.fdiv 1024⟩
    refine wa_for (n := m.arcs.length) (fun j (_ : Unit) => [(3, .ptr k3 0), (4, .int .i64 15), (19, .int .i64 i), (103, x)]) (fun j _ H' => MB B H' k3 { m with arcs := mixL g m.arcs j } x) ()
      (by decide) hwd (by simp) (by simp) (by simp [Rg, v3, v4, v19]) (by simpa [mixL] using hM3) (by simp) ?_ ?_
    · rintro j _ τ H5 hj t105 t104 ⟨v3, v4, v19, v53, -⟩ hM5
      dsimp only [ev] at *
      obtain ⟨k, hxe, hkB, hk5, hrd, _⟩ := hM5.arc (i := j) (by rw [mixL_length _ _ _ (by omega)]; exact hj)
      simp only [mixL_length _ _ _ (Nat.le_of_lt hj)] at hxe
      simp only [mixL_get g _ _ hj] at hrd
      have hrd0 := hrd []
      rw [List.append_nil] at hrd0
      unfold Arc.cells at hrd0
      refine wa_sr ⟨_, by simp -implicitDefEqProofs [v53, t105, hxe, hj, hrd0]; rfl, ?_⟩
      have hM6 := hM5.app [.cells (m.arcs[j].cells) .ex]
      have hk7 : ∀ o, rd (H5 ++ [.cells (m.arcs[j].cells) .ex]) H5.length o = m.arcs[j].cells[o]? := fun o => by simp
      change WP E _ ⟨_, H5 ++ [.cells (m.arcs[j].cells) .ex]⟩ _
      generalize H5 ++ [Blk.cells (m.arcs[j].cells) .ex] = H6 at *
      generalize hk7e : H5.length = k7 at *
      have q3 := hM6.rd3 []
      rw [List.append_nil] at q3
      have p2 : rd H6 k7 2 = some (.int .i64 m.arcs[j].cap) := hk7 2
      obtain ⟨k', hxe', _, _, _, hwr⟩ := hM6.arc (i := j) (by simp only; rw [mixL_length _ _ _ (by omega)]; exact hj)
      rw [hxe] at hxe'
      simp only [mixL_length _ _ _ (Nat.le_of_lt hj)] at hxe'
      cases hxe'
      simp only [mixL_get g _ _ hj] at hwr
      obtain ⟨H7, w7, l7, hM7, _⟩ := hwr 2 (.int .i64 (m.arcs[j].cap.fdiv 1024)) (g m.arcs[j]) (by omega) rfl (by simp [Arc.cells, g])
      simp only [mixL_set g _ _ hj] at hM7
      have hsh : ∀ c, binop .shr (.int .i64 c) (.int .u64 10) = some (.int .i64 (c.fdiv 1024)) := fun c => rfl
      refine wa_regs ⟨_, by simp -implicitDefEqProofs [-binop, hsh, v3, q3, p2, hxe, hj, w7]; rfl, ?_⟩
      exact ⟨by simp [t105], by simp [t104], (), by simp [Rg, v3, v4, v19, v53, hxe], hM7⟩
    · rintro _ τ H5 ⟨v3, v4, v19, v53, -⟩ hM5
      rw [mixL_full] at hM5
      exact ⟨by simp [v19], rfl, (fixS m, x, 15), by simp [Rg, v3, v4], hF', hM5⟩
end Go.Proofs.Ytpojdgeginigjaa
/- The flat code of functions. -/
set_option linter.unusedSimpArgs false
set_option linter.unusedVariables false
namespace Go.Proofs.Ytpojdgeginigjaa
open Go Go.Ar
set_option maxRecDepth 100000
def gc4 : MC := (.seq (.reg [⟨(.some 3), (.box 4 (.t 0)), .none⟩, ⟨(.some 6), (.mv (.c (.bool .false))), .none⟩]) (.seq (.reg [⟨(.some 18), (.fadr 3 (.t 3)), .none⟩, ⟨(.some 19), (.load 1 .false (.t 18)), .none⟩, ⟨(.some 20), (.fadr 3 (.t 3)), .none⟩, ⟨(.some 21), (.load 1 .false (.t 20)), .none⟩, ⟨(.some 22), (.len (.t 21)), .none⟩, ⟨(.some 23), (.mn (.t 22) (.c (.int .i64 100))), .none⟩, ⟨(.some 24), (.slc 3 (.t 19) .none (.some (.t 23))), .none⟩, ⟨(.some 25), (.fadr 3 (.t 3)), .none⟩, ⟨.none, (.store 1 (.t 25) (.t 24)), .none⟩]) (.seq (.reg [⟨(.some 27), (.load 4 .true (.t 3)), .none⟩, ⟨(.some 28), (.call (.c (.fn 30 [] [])) [(.t 27)]), .none⟩, ⟨(.some 26), (.mv (.t 28)), .none⟩, ⟨(.some 29), (.ext (.t 26) 0), .none⟩, ⟨(.some 30), (.ext (.t 26) 1), .none⟩, ⟨(.some 7), (.mv (.t 29)), .none⟩, ⟨(.some 8), (.mv (.t 30)), .none⟩]) (.seq (.reg [⟨(.some 31), (.fadr 3 (.t 3)), .none⟩, ⟨(.some 32), (.load 1 .false (.t 31)), .none⟩, ⟨(.some 33), (.len (.t 32)), .none⟩, ⟨(.some 34), (.bin .gtr (.t 33) (.c (.int .i64 0))), .none⟩]) (.seq (.cond (.t 34) (.seq (.reg [⟨(.some 35), (.mv (.t 1)), .none⟩, ⟨(.some 36), (.conv .i64 (.t 35)), .none⟩, ⟨(.some 37), (.fadr 3 (.t 3)), .none⟩, ⟨(.some 38), (.load 1 .false (.t 37)), .none⟩, ⟨(.some 39), (.len (.t 38)), .none⟩, ⟨(.some 40), (.bin .rem (.t 36) (.t 39)), .none⟩, ⟨(.some 9), (.mv (.t 40)), .none⟩]) (.seq (.reg [⟨(.some 41), (.load 4 .true (.t 3)), .none⟩, ⟨(.some 10), (.alloc [(.int .i64 0), (.int .i64 0), (.int .i64 0), .nils]), .none⟩, ⟨.none, (.store 4 (.t 10) (.t 41)), .none⟩]) (.seq (.dreg 1 [((.hole 0), ⟨(.some 42), (.bslice 0 3 [] []), .none⟩), (.plain, ⟨(.some 43), (.fadr 3 (.t 3)), .none⟩), (.plain, ⟨(.some 44), (.load 1 .false (.t 43)), .none⟩), (.plain, ⟨(.some 45), (.mv (.t 9)), .none⟩), (.plain, ⟨(.some 46), (.slc 3 (.t 44) (.some (.t 45)) .none), .none⟩), (.plain, ⟨(.some 47), (.append 3 24 (.t 42) (.t 46)), .none⟩), (.plain, ⟨(.some 48), (.fadr 3 (.t 3)), .none⟩), (.plain, ⟨(.some 49), (.load 1 .false (.t 48)), .none⟩), (.plain, ⟨(.some 50), (.mv (.t 9)), .none⟩), (.plain, ⟨(.some 51), (.slc 3 (.t 49) .none (.some (.t 50))), .none⟩), (.plain, ⟨(.some 52), (.append 3 24 (.t 47) (.t 51)), .none⟩), (.plain, ⟨(.some 53), (.fadr 3 (.t 10)), .none⟩), (.plain, ⟨.none, (.store 1 (.t 53) (.t 52)), .none⟩)] [(.nh (.t 43) 0), (.nh (.t 44) 0), (.nh (.t 48) 0), (.nh (.t 49) 0), (.ne (.t 42) (.t 48)), (.lt (.t 48)), (.ne (.t 42) (.t 49)), (.lt (.t 49))]) (.seq (.reg [⟨(.some 55), (.load 4 .true (.t 10)), .none⟩, ⟨(.some 56), (.call (.c (.fn 30 [] [])) [(.t 55)]), .none⟩, ⟨(.some 54), (.mv (.t 56)), .none⟩, ⟨(.some 57), (.ext (.t 54) 0), .none⟩, ⟨(.some 58), (.ext (.t 54) 1), .none⟩, ⟨(.some 11), (.mv (.t 57)), .none⟩, ⟨(.some 12), (.mv (.t 58)), .none⟩]) (.seq (.reg [⟨(.some 59), (.mv (.t 11)), .none⟩, ⟨(.some 60), (.mv (.t 7)), .none⟩, ⟨(.some 61), (.bin .neq (.t 59) (.t 60)), .none⟩, ⟨(.some 62), (.mv (.t 61)), .none⟩, ⟨(.some 63), (.mv (.t 12)), (.some (62, .false))⟩, ⟨(.some 64), (.mv (.t 8)), (.some (62, .false))⟩, ⟨(.some 65), (.eq .true .bool (.t 63) (.t 64)), (.some (62, .false))⟩, ⟨(.some 66), (.pick (.t 62) (.c (.bool .true)) (.t 65)), .none⟩]) (.cond (.t 66) (.seq (.reg [⟨(.some 6), (.mv (.c (.bool .false))), .none⟩]) .ret) .skip)))))) .skip) (.seq (.reg [⟨(.some 67), (.load 4 .true (.t 3)), .none⟩, ⟨(.some 68), (.call (.c (.fn 27 [] [])) [(.t 67)]), .none⟩, ⟨(.some 13), (.alloc [(.int .i64 0), (.int .i64 0), (.int .i64 0), .nils]), .none⟩, ⟨.none, (.store 4 (.t 13) (.t 68)), .none⟩]) (.seq (.reg [⟨(.some 69), (.fadr 3 (.t 13)), .none⟩, ⟨(.some 70), (.load 1 .false (.t 69)), .none⟩, ⟨(.some 71), (.mv (.t 2)), .none⟩, ⟨(.some 72), (.build [(.int .i64 0), (.int .i64 0), (.int .i64 0)] [(2, (1, (.t 71)))]), .none⟩, ⟨(.some 73), (.bslice 1 3 [(.int .i64 0), (.int .i64 0), (.int .i64 0)] [(0, (.t 72))]), .none⟩, ⟨(.some 74), (.append 3 24 (.t 70) (.t 73)), .none⟩, ⟨(.some 75), (.fadr 3 (.t 13)), .none⟩, ⟨.none, (.store 1 (.t 75) (.t 74)), .none⟩]) (.seq (.reg [⟨(.some 77), (.load 4 .true (.t 13)), .none⟩, ⟨(.some 78), (.call (.c (.fn 30 [] [])) [(.t 77)]), .none⟩, ⟨(.some 76), (.mv (.t 78)), .none⟩, ⟨(.some 79), (.ext (.t 76) 0), .none⟩, ⟨(.some 80), (.ext (.t 76) 1), .none⟩, ⟨(.some 14), (.mv (.t 79)), .none⟩, ⟨(.some 15), (.mv (.t 80)), .none⟩]) (.seq (.reg [⟨(.some 81), (.mv (.t 15)), .none⟩, ⟨(.some 82), (.mv (.t 8)), .none⟩, ⟨(.some 83), (.mv (.t 82)), .none⟩, ⟨(.some 84), (.mv (.t 2)), (.some (83, .true))⟩, ⟨(.some 85), (.bin .geq (.t 84) (.c (.int .i64 0))), (.some (83, .true))⟩, ⟨(.some 86), (.pick (.t 83) (.t 85) (.c (.bool .false))), .none⟩, ⟨(.some 87), (.mv (.t 86)), .none⟩, ⟨(.some 88), (.mv (.t 2)), (.some (87, .true))⟩, ⟨(.some 89), (.mv (.t 7)), (.some (87, .true))⟩, ⟨(.some 90), (.bin .sub (.c (.int .i64 4611686018427387904)) (.t 89)), (.some (87, .true))⟩, ⟨(.some 91), (.bin .leq (.t 88) (.t 90)), (.some (87, .true))⟩, ⟨(.some 92), (.pick (.t 87) (.t 91) (.c (.bool .false))), .none⟩, ⟨(.some 93), (.eq .true .bool (.t 81) (.t 92)), .none⟩, ⟨(.some 94), (.mv (.t 93)), .none⟩, ⟨(.some 95), (.mv (.t 15)), (.some (94, .false))⟩, ⟨(.some 96), (.mv (.t 95)), (.some (94, .false))⟩, ⟨(.some 97), (.mv (.t 14)), (.some (96, .true))⟩, ⟨(.some 98), (.mv (.t 7)), (.some (96, .true))⟩, ⟨(.some 99), (.mv (.t 2)), (.some (96, .true))⟩, ⟨(.some 100), (.bin .add (.t 98) (.t 99)), (.some (96, .true))⟩, ⟨(.some 101), (.bin .neq (.t 97) (.t 100)), (.some (96, .true))⟩, ⟨(.some 102), (.pick (.t 96) (.t 101) (.c (.bool .false))), (.some (94, .false))⟩, ⟨(.some 103), (.pick (.t 94) (.c (.bool .true)) (.t 102)), .none⟩, ⟨(.some 104), (.mv (.t 103)), .none⟩, ⟨(.some 105), (.mv (.t 15)), (.some (104, .false))⟩, ⟨(.some 106), (.not (.t 105)), (.some (104, .false))⟩, ⟨(.some 107), (.mv (.t 106)), (.some (104, .false))⟩, ⟨(.some 108), (.mv (.t 14)), (.some (107, .true))⟩, ⟨(.some 109), (.bin .neq (.t 108) (.c (.int .i64 0))), (.some (107, .true))⟩, ⟨(.some 110), (.pick (.t 107) (.t 109) (.c (.bool .false))), (.some (104, .false))⟩, ⟨(.some 111), (.pick (.t 104) (.c (.bool .true)) (.t 110)), .none⟩]) (.seq (.cond (.t 111) (.seq (.reg [⟨(.some 6), (.mv (.c (.bool .false))), .none⟩]) .ret) .skip) (.seq (.reg [⟨(.some 112), (.fadr 3 (.t 3)), .none⟩, ⟨(.some 113), (.load 1 .false (.t 112)), .none⟩, ⟨(.some 114), (.len (.t 113)), .none⟩, ⟨(.some 115), (.mv (.c (.int .i64 0))), .none⟩]) (.seq (.block 0 (.loop (.seq (.reg [⟨(.some 116), (.bin .lss (.t 115) (.t 114)), .none⟩]) (.seq (.cond (.t 116) .skip (.exit 0)) (.seq (.block 1 (.seq (.reg [⟨(.some 117), (.iadr 3 (.t 113) (.t 115)), .none⟩, ⟨(.some 118), (.load 3 .true (.t 117)), .none⟩, ⟨(.some 17), (.alloc [(.int .i64 0), (.int .i64 0), (.int .i64 0)]), .none⟩, ⟨.none, (.store 3 (.t 17) (.t 118)), .none⟩]) (.seq (.reg [⟨(.some 119), (.mv (.t 8)), .none⟩, ⟨(.some 120), (.mv (.t 119)), .none⟩, ⟨(.some 121), (.fadr 2 (.t 17)), (.some (120, .true))⟩, ⟨(.some 122), (.load 1 .false (.t 121)), (.some (120, .true))⟩, ⟨(.some 123), (.bin .lss (.t 122) (.c (.int .i64 0))), (.some (120, .true))⟩, ⟨(.some 124), (.mv (.t 123)), (.some (120, .true))⟩, ⟨(.some 125), (.fadr 2 (.t 17)), (.some (124, .false))⟩, ⟨(.some 126), (.load 1 .false (.t 125)), (.some (124, .false))⟩, ⟨(.some 127), (.mv (.t 7)), (.some (124, .false))⟩, ⟨(.some 128), (.bin .gtr (.t 126) (.t 127)), (.some (124, .false))⟩, ⟨(.some 129), (.pick (.t 124) (.c (.bool .true)) (.t 128)), (.some (120, .true))⟩, ⟨(.some 130), (.pick (.t 120) (.t 129) (.c (.bool .false))), .none⟩]) (.cond (.t 130) (.seq (.reg [⟨(.some 6), (.mv (.c (.bool .false))), .none⟩]) .ret) .skip)))) (.reg [⟨(.some 131), (.bin .add (.t 115) (.c (.int .i64 1))), .none⟩, ⟨(.some 115), (.mv (.t 131)), .none⟩])))))) (.seq (.reg [⟨(.some 132), (.call (.c (.fn 26 [] [])) []), .none⟩, ⟨(.some 6), (.mv (.t 132)), .none⟩]) .ret)))))))))))))
theorem nc4 : nc Try.prog 4 = some (3, [(.t 6)], gc4) := by kernel_rfl
def gc7 : MC := (.seq (.reg [⟨(.some 3), (.box 4 (.t 0)), .none⟩, ⟨(.some 6), (.mv (.c (.bool .false))), .none⟩]) (.seq (.reg [⟨(.some 10), (.fadr 3 (.t 3)), .none⟩, ⟨(.some 11), (.load 1 .false (.t 10)), .none⟩, ⟨(.some 12), (.len (.t 11)), .none⟩, ⟨(.some 13), (.bin .eql (.t 12) (.c (.int .i64 0))), .none⟩, ⟨(.some 14), (.mv (.t 13)), .none⟩, ⟨(.some 15), (.fadr 3 (.t 3)), (.some (14, .false))⟩, ⟨(.some 16), (.load 1 .false (.t 15)), (.some (14, .false))⟩, ⟨(.some 17), (.len (.t 16)), (.some (14, .false))⟩, ⟨(.some 18), (.bin .gtr (.t 17) (.c (.int .i64 200))), (.some (14, .false))⟩, ⟨(.some 19), (.pick (.t 14) (.c (.bool .true)) (.t 18)), .none⟩]) (.seq (.cond (.t 19) (.seq (.reg [⟨(.some 20), (.call (.c (.fn 26 [] [])) []), .none⟩, ⟨(.some 6), (.mv (.t 20)), .none⟩]) .ret) .skip) (.seq (.dreg 2 [(.plain, ⟨(.some 21), (.load 4 .true (.t 3)), .none⟩), ((.pcall [0, 1]), ⟨(.some 22), (.call (.c (.fn 27 [] [])) [(.t 21)]), .none⟩), (.plain, ⟨(.some 23), (.load 4 .true (.t 3)), .none⟩), ((.pcall [0, 1]), ⟨(.some 24), (.call (.c (.fn 27 [] [])) [(.t 23)]), .none⟩), ((.hole 0), ⟨(.some 7), (.alloc [(.int .i64 0), (.int .i64 0), (.int .i64 0), .nils]), .none⟩), ((.hole 1), ⟨(.some 8), (.alloc [(.int .i64 0), (.int .i64 0), (.int .i64 0), .nils]), .none⟩), (.plain, ⟨.none, (.store 4 (.t 7) (.t 22)), .none⟩), (.plain, ⟨.none, (.store 4 (.t 8) (.t 24)), .none⟩)] [(.nh (.t 3) 0), (.nh (.t 3) 1), (.lt (.t 3)), (.nh (.t 3) 0), (.nh (.t 3) 1)]) (.seq (.reg [⟨(.some 25), (.mv (.t 1)), .none⟩, ⟨(.some 26), (.conv .i64 (.t 25)), .none⟩, ⟨(.some 27), (.fadr 3 (.t 3)), .none⟩, ⟨(.some 28), (.load 1 .false (.t 27)), .none⟩, ⟨(.some 29), (.len (.t 28)), .none⟩, ⟨(.some 30), (.bin .rem (.t 26) (.t 29)), .none⟩, ⟨(.some 9), (.mv (.t 30)), .none⟩]) (.seq (.reg [⟨(.some 31), (.fadr 3 (.t 7)), .none⟩, ⟨(.some 32), (.load 1 .false (.t 31)), .none⟩, ⟨(.some 33), (.len (.t 32)), .none⟩, ⟨(.some 34), (.fadr 3 (.t 3)), .none⟩, ⟨(.some 35), (.load 1 .false (.t 34)), .none⟩, ⟨(.some 36), (.len (.t 35)), .none⟩, ⟨(.some 37), (.bin .neq (.t 33) (.t 36)), .none⟩]) (.seq (.cond (.t 37) (.seq (.reg [⟨(.some 6), (.mv (.c (.bool .false))), .none⟩]) .ret) .skip) (.seq (.reg [⟨(.some 38), (.mv (.t 2)), .none⟩, ⟨(.some 39), (.bin .rem (.t 38) (.c (.int .u8 7))), .none⟩]) (.seq (.block 0 (.seq (.reg [⟨(.some 47), (.bin .eql (.t 39) (.c (.int .u8 0))), .none⟩, ⟨(.some 46), (.mv (.t 47)), .none⟩]) (.cond (.t 46) (.reg [⟨(.some 48), (.fadr 0 (.t 7)), .none⟩, ⟨(.some 49), (.load 1 .false (.t 48)), .none⟩, ⟨(.some 50), (.bin .add (.t 49) (.c (.int .i64 1))), .none⟩, ⟨(.some 51), (.fadr 0 (.t 7)), .none⟩, ⟨.none, (.store 1 (.t 51) (.t 50)), .none⟩]) (.seq (.reg [⟨(.some 53), (.bin .eql (.t 39) (.c (.int .u8 1))), .none⟩, ⟨(.some 52), (.mv (.t 53)), .none⟩]) (.cond (.t 52) (.reg [⟨(.some 54), (.fadr 1 (.t 7)), .none⟩, ⟨(.some 55), (.load 1 .false (.t 54)), .none⟩, ⟨(.some 56), (.bin .add (.t 55) (.c (.int .i64 1))), .none⟩, ⟨(.some 57), (.fadr 1 (.t 7)), .none⟩, ⟨.none, (.store 1 (.t 57) (.t 56)), .none⟩]) (.seq (.reg [⟨(.some 59), (.bin .eql (.t 39) (.c (.int .u8 2))), .none⟩, ⟨(.some 58), (.mv (.t 59)), .none⟩]) (.cond (.t 58) (.reg [⟨(.some 60), (.fadr 2 (.t 7)), .none⟩, ⟨(.some 61), (.load 1 .false (.t 60)), .none⟩, ⟨(.some 62), (.bin .add (.t 61) (.c (.int .i64 1))), .none⟩, ⟨(.some 63), (.fadr 2 (.t 7)), .none⟩, ⟨.none, (.store 1 (.t 63) (.t 62)), .none⟩]) (.seq (.reg [⟨(.some 65), (.bin .eql (.t 39) (.c (.int .u8 3))), .none⟩, ⟨(.some 64), (.mv (.t 65)), .none⟩]) (.cond (.t 64) (.reg [⟨(.some 66), (.fadr 3 (.t 7)), .none⟩, ⟨(.some 67), (.load 1 .false (.t 66)), .none⟩, ⟨(.some 68), (.mv (.t 9)), .none⟩, ⟨(.some 69), (.iadr 3 (.t 67) (.t 68)), .none⟩, ⟨(.some 70), (.fadr 0 (.t 69)), .none⟩, ⟨(.some 71), (.load 1 .false (.t 70)), .none⟩, ⟨(.some 72), (.bin .add (.t 71) (.c (.int .i64 1))), .none⟩, ⟨(.some 73), (.iadr 3 (.t 67) (.t 68)), .none⟩, ⟨(.some 74), (.fadr 0 (.t 73)), .none⟩, ⟨.none, (.store 1 (.t 74) (.t 72)), .none⟩]) (.seq (.reg [⟨(.some 76), (.bin .eql (.t 39) (.c (.int .u8 4))), .none⟩, ⟨(.some 75), (.mv (.t 76)), .none⟩]) (.cond (.t 75) (.reg [⟨(.some 77), (.fadr 3 (.t 7)), .none⟩, ⟨(.some 78), (.load 1 .false (.t 77)), .none⟩, ⟨(.some 79), (.mv (.t 9)), .none⟩, ⟨(.some 80), (.iadr 3 (.t 78) (.t 79)), .none⟩, ⟨(.some 81), (.fadr 1 (.t 80)), .none⟩, ⟨(.some 82), (.load 1 .false (.t 81)), .none⟩, ⟨(.some 83), (.bin .add (.t 82) (.c (.int .i64 1))), .none⟩, ⟨(.some 84), (.iadr 3 (.t 78) (.t 79)), .none⟩, ⟨(.some 85), (.fadr 1 (.t 84)), .none⟩, ⟨.none, (.store 1 (.t 85) (.t 83)), .none⟩]) (.seq (.reg [⟨(.some 87), (.bin .eql (.t 39) (.c (.int .u8 5))), .none⟩, ⟨(.some 86), (.mv (.t 87)), .none⟩]) (.cond (.t 86) (.reg [⟨(.some 88), (.fadr 3 (.t 7)), .none⟩, ⟨(.some 89), (.load 1 .false (.t 88)), .none⟩, ⟨(.some 90), (.mv (.t 9)), .none⟩, ⟨(.some 91), (.iadr 3 (.t 89) (.t 90)), .none⟩, ⟨(.some 92), (.fadr 2 (.t 91)), .none⟩, ⟨(.some 93), (.load 1 .false (.t 92)), .none⟩, ⟨(.some 94), (.bin .add (.t 93) (.c (.int .i64 1))), .none⟩, ⟨(.some 95), (.iadr 3 (.t 89) (.t 90)), .none⟩, ⟨(.some 96), (.fadr 2 (.t 95)), .none⟩, ⟨.none, (.store 1 (.t 96) (.t 94)), .none⟩]) (.reg [⟨(.some 40), (.fadr 3 (.t 7)), .none⟩, ⟨(.some 41), (.load 1 .false (.t 40)), .none⟩, ⟨(.some 42), (.build [(.int .i64 0), (.int .i64 0), (.int .i64 0)] []), .none⟩, ⟨(.some 43), (.bslice 1 3 [(.int .i64 0), (.int .i64 0), (.int .i64 0)] [(0, (.t 42))]), .none⟩, ⟨(.some 44), (.append 3 24 (.t 41) (.t 43)), .none⟩, ⟨(.some 45), (.fadr 3 (.t 7)), .none⟩, ⟨.none, (.store 1 (.t 45) (.t 44)), .none⟩])))))))))))))) (.seq (.reg [⟨(.some 97), (.load 4 .true (.t 7)), .none⟩, ⟨(.some 98), (.load 4 .true (.t 8)), .none⟩, ⟨(.some 99), (.call (.c (.fn 42 [] [])) [(.t 97), (.t 98)]), .none⟩, ⟨(.some 100), (.not (.t 99)), .none⟩, ⟨(.some 101), (.mv (.t 100)), .none⟩, ⟨(.some 102), (.load 4 .true (.t 8)), (.some (101, .true))⟩, ⟨(.some 103), (.load 4 .true (.t 7)), (.some (101, .true))⟩, ⟨(.some 104), (.call (.c (.fn 42 [] [])) [(.t 102), (.t 103)]), (.some (101, .true))⟩, ⟨(.some 105), (.not (.t 104)), (.some (101, .true))⟩, ⟨(.some 106), (.pick (.t 101) (.t 105) (.c (.bool .false))), .none⟩, ⟨(.some 107), (.mv (.t 106)), .none⟩, ⟨(.some 108), (.load 4 .true (.t 8)), (.some (107, .true))⟩, ⟨(.some 109), (.load 4 .true (.t 3)), (.some (107, .true))⟩, ⟨(.some 110), (.call (.c (.fn 42 [] [])) [(.t 108), (.t 109)]), (.some (107, .true))⟩, ⟨(.some 111), (.pick (.t 107) (.t 110) (.c (.bool .false))), .none⟩, ⟨(.some 112), (.mv (.t 111)), .none⟩, ⟨(.some 113), (.call (.c (.fn 26 [] [])) []), (.some (112, .true))⟩, ⟨(.some 114), (.pick (.t 112) (.t 113) (.c (.bool .false))), .none⟩, ⟨(.some 6), (.mv (.t 114)), .none⟩]) .ret))))))))))
theorem nc7 : nc Try.prog 7 = some (3, [(.t 6)], gc7) := by kernel_rfl
def gc9 : MC := (.seq (.reg [⟨(.some 2), (.box 4 (.t 0)), .none⟩, ⟨(.some 3), (.box 4 (.t 1)), .none⟩, ⟨(.some 4), (.mv (.c (.bool .false))), .none⟩]) (.seq (.reg [⟨(.some 10), (.fadr 3 (.t 2)), .none⟩, ⟨(.some 11), (.load 1 .false (.t 10)), .none⟩, ⟨(.some 12), (.len (.t 11)), .none⟩, ⟨(.some 13), (.bin .gtr (.t 12) (.c (.int .i64 300))), .none⟩, ⟨(.some 14), (.mv (.t 13)), .none⟩, ⟨(.some 15), (.fadr 3 (.t 3)), (.some (14, .false))⟩, ⟨(.some 16), (.load 1 .false (.t 15)), (.some (14, .false))⟩, ⟨(.some 17), (.len (.t 16)), (.some (14, .false))⟩, ⟨(.some 18), (.bin .gtr (.t 17) (.c (.int .i64 300))), (.some (14, .false))⟩, ⟨(.some 19), (.pick (.t 14) (.c (.bool .true)) (.t 18)), .none⟩]) (.seq (.cond (.t 19) (.seq (.reg [⟨(.some 20), (.call (.c (.fn 26 [] [])) []), .none⟩, ⟨(.some 4), (.mv (.t 20)), .none⟩]) .ret) .skip) (.seq (.reg [⟨(.some 21), (.load 4 .true (.t 2)), .none⟩, ⟨(.some 22), (.call (.c (.fn 44 [] [])) [(.t 21)]), .none⟩, ⟨(.some 5), (.alloc [(.int .i64 0), (.int .i64 0), (.int .i64 0), .nils]), .none⟩, ⟨.none, (.store 4 (.t 5) (.t 22)), .none⟩]) (.seq (.reg [⟨(.some 24), (.load 4 .true (.t 2)), .none⟩, ⟨(.some 25), (.call (.c (.fn 30 [] [])) [(.t 24)]), .none⟩, ⟨(.some 23), (.mv (.t 25)), .none⟩, ⟨(.some 26), (.ext (.t 23) 0), .none⟩, ⟨(.some 27), (.ext (.t 23) 1), .none⟩, ⟨(.some 6), (.mv (.t 26)), .none⟩, ⟨(.some 7), (.mv (.t 27)), .none⟩]) (.seq (.reg [⟨(.some 29), (.load 4 .true (.t 5)), .none⟩, ⟨(.some 30), (.call (.c (.fn 30 [] [])) [(.t 29)]), .none⟩, ⟨(.some 28), (.mv (.t 30)), .none⟩, ⟨(.some 31), (.ext (.t 28) 0), .none⟩, ⟨(.some 32), (.ext (.t 28) 1), .none⟩, ⟨(.some 8), (.mv (.t 31)), .none⟩, ⟨(.some 9), (.mv (.t 32)), .none⟩]) (.seq (.dreg 0 [(.plain, ⟨(.some 33), (.load 4 .true (.t 5)), .none⟩), ((.pcall []), ⟨(.some 34), (.call (.c (.fn 44 [] [])) [(.t 33)]), .none⟩), (.plain, ⟨(.some 35), (.load 4 .true (.t 2)), .none⟩), (.plain, ⟨(.some 36), (.call (.c (.fn 41 [] [])) [(.t 34), (.t 35)]), .none⟩), (.plain, ⟨(.some 37), (.mv (.t 36)), .none⟩), (.plain, ⟨(.some 38), (.load 4 .true (.t 5)), (.some (37, .true))⟩), ((.pcall []), ⟨(.some 39), (.call (.c (.fn 28 [] [])) [(.t 38)]), (.some (37, .true))⟩), (.plain, ⟨(.some 40), (.load 4 .true (.t 2)), (.some (37, .true))⟩), (.plain, ⟨(.some 41), (.call (.c (.fn 28 [] [])) [(.t 40)]), (.some (37, .true))⟩), (.plain, ⟨(.some 42), (.bin .eql (.t 39) (.t 41)), (.some (37, .true))⟩), (.plain, ⟨(.some 43), (.pick (.t 37) (.t 42) (.c (.bool .false))), .none⟩), (.plain, ⟨(.some 44), (.mv (.t 43)), .none⟩), (.plain, ⟨(.some 45), (.mv (.t 6)), (.some (44, .true))⟩), (.plain, ⟨(.some 46), (.mv (.t 8)), (.some (44, .true))⟩), (.plain, ⟨(.some 47), (.bin .eql (.t 45) (.t 46)), (.some (44, .true))⟩), (.plain, ⟨(.some 48), (.pick (.t 44) (.t 47) (.c (.bool .false))), .none⟩), (.plain, ⟨(.some 49), (.mv (.t 48)), .none⟩), (.plain, ⟨(.some 50), (.mv (.t 7)), (.some (49, .true))⟩), (.plain, ⟨(.some 51), (.mv (.t 9)), (.some (49, .true))⟩), (.plain, ⟨(.some 52), (.eq .false .bool (.t 50) (.t 51)), (.some (49, .true))⟩), (.plain, ⟨(.some 53), (.pick (.t 49) (.t 52) (.c (.bool .false))), .none⟩), (.plain, ⟨(.some 54), (.mv (.t 53)), .none⟩), (.plain, ⟨(.some 55), (.load 4 .true (.t 2)), (.some (54, .true))⟩), (.plain, ⟨(.some 56), (.load 4 .true (.t 3)), (.some (54, .true))⟩), ((.pcall []), ⟨(.some 57), (.call (.c (.fn 42 [] [])) [(.t 55), (.t 56)]), (.some (54, .true))⟩), (.plain, ⟨(.some 58), (.load 4 .true (.t 5)), (.some (54, .true))⟩), (.plain, ⟨(.some 59), (.load 4 .true (.t 3)), (.some (54, .true))⟩), ((.pcall []), ⟨(.some 60), (.call (.c (.fn 44 [] [])) [(.t 59)]), (.some (54, .true))⟩), (.plain, ⟨(.some 61), (.call (.c (.fn 42 [] [])) [(.t 58), (.t 60)]), (.some (54, .true))⟩), (.plain, ⟨(.some 62), (.eq .false .bool (.t 57) (.t 61)), (.some (54, .true))⟩), (.plain, ⟨(.some 63), (.pick (.t 54) (.t 62) (.c (.bool .false))), .none⟩), (.plain, ⟨(.some 64), (.mv (.t 63)), .none⟩), (.plain, ⟨(.some 65), (.load 4 .true (.t 2)), (.some (64, .true))⟩), (.plain, ⟨(.some 66), (.load 4 .true (.t 2)), (.some (64, .true))⟩), (.plain, ⟨(.some 67), (.call (.c (.fn 42 [] [])) [(.t 65), (.t 66)]), (.some (64, .true))⟩), (.plain, ⟨(.some 68), (.pick (.t 64) (.t 67) (.c (.bool .false))), .none⟩), (.plain, ⟨(.some 69), (.mv (.t 68)), .none⟩), (.plain, ⟨(.some 70), (.call (.c (.fn 26 [] [])) []), (.some (69, .true))⟩), (.plain, ⟨(.some 71), (.pick (.t 69) (.t 70) (.c (.bool .false))), .none⟩), (.plain, ⟨(.some 4), (.mv (.t 71)), .none⟩)] [(.lt (.t 2)), (.lt (.t 2)), (.lt (.t 5)), (.lt (.t 3))]) .ret)))))))
theorem nc9 : nc Try.prog 9 = some (2, [(.t 4)], gc9) := by kernel_rfl
def gc44 : MC := (.seq (.reg [⟨(.some 1), (.box 4 (.t 0)), .none⟩, ⟨(.some 2), (.alloc [(.int .i64 0), (.int .i64 0), (.int .i64 0), .nils]), .none⟩]) (.seq (.reg [⟨(.some 6), (.load 4 .true (.t 1)), .none⟩, ⟨(.some 7), (.call (.c (.fn 27 [] [])) [(.t 6)]), .none⟩, ⟨(.some 3), (.alloc [(.int .i64 0), (.int .i64 0), (.int .i64 0), .nils]), .none⟩, ⟨.none, (.store 4 (.t 3) (.t 7)), .none⟩]) (.seq (.dreg 0 [(.plain, ⟨(.some 8), (.fadr 2 (.t 1)), .none⟩), (.plain, ⟨(.some 9), (.load 1 .false (.t 8)), .none⟩), (.plain, ⟨(.some 10), (.fadr 1 (.t 1)), .none⟩), (.plain, ⟨(.some 11), (.load 1 .false (.t 10)), .none⟩), (.plain, ⟨(.some 12), (.fadr 1 (.t 3)), .none⟩), (.plain, ⟨.none, (.store 1 (.t 12) (.t 9)), .none⟩), (.plain, ⟨(.some 13), (.fadr 2 (.t 3)), .none⟩), (.plain, ⟨.none, (.store 1 (.t 13) (.t 11)), .none⟩)] [(.ne (.t 10) (.t 12))]) (.seq (.reg [⟨(.some 14), (.fadr 3 (.t 1)), .none⟩, ⟨(.some 15), (.load 1 .false (.t 14)), .none⟩, ⟨(.some 16), (.len (.t 15)), .none⟩, ⟨(.some 17), (.mv (.c (.int .i64 0))), .none⟩]) (.seq (.block 0 (.loop (.seq (.reg [⟨(.some 18), (.bin .lss (.t 17) (.t 16)), .none⟩]) (.seq (.cond (.t 18) .skip (.exit 0)) (.seq (.block 1 (.seq (.reg [⟨(.some 19), (.mv (.t 17)), .none⟩, ⟨(.some 20), (.iadr 3 (.t 15) (.t 17)), .none⟩, ⟨(.some 21), (.load 3 .true (.t 20)), .none⟩, ⟨(.some 5), (.alloc [(.int .i64 0), (.int .i64 0), (.int .i64 0)]), .none⟩, ⟨(.some 4), (.mv (.t 19)), .none⟩, ⟨.none, (.store 3 (.t 5) (.t 21)), .none⟩]) (.reg [⟨(.some 22), (.fadr 3 (.t 3)), .none⟩, ⟨(.some 23), (.load 1 .false (.t 22)), .none⟩, ⟨(.some 24), (.mv (.t 4)), .none⟩, ⟨(.some 25), (.fadr 1 (.t 5)), .none⟩, ⟨(.some 26), (.load 1 .false (.t 25)), .none⟩, ⟨(.some 27), (.fadr 0 (.t 5)), .none⟩, ⟨(.some 28), (.load 1 .false (.t 27)), .none⟩, ⟨(.some 29), (.fadr 2 (.t 5)), .none⟩, ⟨(.some 30), (.load 1 .false (.t 29)), .none⟩, ⟨(.some 31), (.build [(.int .i64 0), (.int .i64 0), (.int .i64 0)] [(0, (1, (.t 26))), (1, (1, (.t 28))), (2, (1, (.t 30)))]), .none⟩, ⟨(.some 32), (.iadr 3 (.t 23) (.t 24)), .none⟩, ⟨.none, (.store 3 (.t 32) (.t 31)), .none⟩]))) (.reg [⟨(.some 33), (.bin .add (.t 17) (.c (.int .i64 1))), .none⟩, ⟨(.some 17), (.mv (.t 33)), .none⟩])))))) (.seq (.reg [⟨(.some 34), (.load 4 .true (.t 3)), .none⟩, ⟨.none, (.store 4 (.t 2) (.t 34)), .none⟩]) .ret))))))
theorem nc44 : nc Try.prog 44 = some (1, [(.c 2 4 .true)], gc44) := by kernel_rfl
end Go.Proofs.Ytpojdgeginigjaa
/- Nets that are the same; nets that are turned. -/
set_option linter.unusedSimpArgs false
set_option linter.unusedVariables false
namespace Go.Proofs.Ytpojdgeginigjaa
open Go Go.Ar
set_option maxRecDepth 100000

theorem eqAll_arc (a b : Ar.Arc) : eqAll [true, true, true] a.cells b.cells = some (decide (a = b)) := by
  obtain ⟨a1, a2, a3⟩ := a
  obtain ⟨b1, b2, b3⟩ := b
  simp only [Arc.cells, eqAll, if_true, Ar.Arc.mk.injEq]
  by_cases h1 : a1 = b1
  · subst h1
    by_cases h2 : a2 = b2
    · subst h2
      by_cases h3 : a3 = b3
      · subst h3; simp
      · have : (a3 == b3) = false := by simpa using h3
        simp [this, h3]
    · have : (a2 == b2) = false := by simpa using h2
      simp [this, h2]
  · have : (a1 == b1) = false := by simpa using h1
    simp [this, h1]

theorem pc_equal {a b : V} {l1 l2 : List Ar.Arc} {H : Heap} (h1 : AL H a l1) (h2 : AL H b l2) (hs : l1.length ≤ 2 ^ 40) : Pc E 87 [a, b] H (.bool (decide (l1 = l2))) := Pc.mk fun G => by
  have hA := h1.app G
  have hB := h2.app G
  clear h1 h2
  generalize H ++ G = H1 at *
  refine call_E rfl nc87 rfl ?_
  unfold gc87
  have hla : lenOf a = some l1.length := Rw.len hA
  have hlb : lenOf b = some l2.length := Rw.len hB
  refine wa_sr ⟨_, by simp; rfl, ?_⟩
  refine wa_sr ⟨_, by simp [hla, hlb]; rfl, ?_⟩
  by_cases hlen : l1.length = l2.length
  case neg =>
    refine wa_if (t := true) (by simp; omega) (fun _ => ?_) (fun h => by cases h)
    refine wa_sr ⟨_, by simp; rfl, ?_⟩
    have : l1 ≠ l2 := fun e => hlen (by rw [e])
    exact wa_rt ⟨by simp, _, by simp; rfl, by simp [this], [], by simp⟩
  refine wa_if (t := false) (by simp [hlen]) (fun h => by cases h) (fun _ => ?_)
  refine wa_sr ⟨_, by simp [hla]; rfl, ?_⟩
  refine wa_cut (fun s => s.H = H1 ∧ l1 = l2) ?_ ?_
  · refine wa_for (n := l1.length) (fun i (_ : Unit) => [(0, a), (1, b)]) (fun i _ H' => H' = H1 ∧ ∀ (j : Nat) (hj : j < l1.length), j < i → l1[j] = l2[j]'(by omega)) ()
      (by decide) (fun i hi => w64 (by omega) (by omega)) (by simp) (by simp) (by simp [Rg]) ⟨rfl, fun j _ h => by omega⟩ (by simp) ?_ ?_
    · rintro i _ τ H2 hi t13 t12 ⟨t0, t1, -⟩ ⟨rfl, hall⟩
      dsimp only [ev] at *
      have hi2 : i < l2.length := by omega
      obtain ⟨k, o, c, rfl, _, _, hr⟩ := hA.at hi
      obtain ⟨k2, o2, c2, rfl, _, _, hr2⟩ := hB.at hi2
      have he := eqAll_arc l1[i] l2[i]
      refine wa_sr ⟨_, by simp [t13]; rfl, ?_⟩
      refine wa_dr rfl rfl ⟨_, by simp -implicitDefEqProofs [t0, t1, hi, hi2, hr, hr2, he]; rfl, ?_⟩
      by_cases hc : l1[i] = l2[i]
      · refine wa_cond (t := false) (by simp [hc]) (fun h => by cases h) (fun _ => wa_skip ?_)
        refine ⟨by simp [t13], by simp [t12], (), by simp [Rg, t0, t1], rfl, fun j hj hji => ?_⟩
        by_cases e : j = i
        · subst e; exact hc
        · exact hall j hj (by omega)
      · refine wa_cond (t := true) (by simp [hc]) (fun _ => ?_) (fun h => by cases h)
        refine wa_sr ⟨_, by simp; rfl, ?_⟩
        have : l1 ≠ l2 := fun e => hc (by simp [e])
        exact wa_ret ⟨by simp, _, by simp; rfl, by simp [this], [], by simp⟩
    · rintro _ τ H2 - ⟨rfl, hall⟩
      exact ⟨rfl, List.ext_getElem hlen fun j h1 h2 => hall j h1 h1⟩
  · rintro ⟨τ, H2⟩ ⟨hH, he⟩
    dsimp only at hH
    refine wa_sr ⟨_, by simp; rfl, ?_⟩
    exact wa_ret ⟨by simp, _, by simp; rfl, by simp [he], [], by simpa using hH⟩

def sameB (m n : Net) : Bool := decide (m.N = n.N ∧ m.S = n.S ∧ m.T = n.T ∧ m.arcs = n.arcs)
theorem pc_same {m n : Net} {a b : V} {H : Heap} (h1 : AL H a m.arcs) (h2 : AL H b n.arcs) (hs : m.arcs.length ≤ 2 ^ 40) : Pc E 42 [NV m a, NV n b] H (.bool (sameB m n)) := Pc.mk fun G => by
  obtain ⟨f, hf⟩ := pc_equal h1 h2 hs
  refine call_E rfl nc42 rfl ?_
  unfold gc42 NV
  have hla : a.cells = some [a] := Rw.one h1
  have hlb : b.cells = some [b] := Rw.one h2
  refine wa_sr ⟨_, by simp [hla, hlb]; rfl, ?_⟩
  by_cases e1 : m.N = n.N
  · by_cases e2 : m.S = n.S
    · by_cases e3 : m.T = n.T
      · refine wa_sr ⟨_, by simp -implicitDefEqProofs [e1, e2, e3, hf]; rfl, ?_⟩
        exact wa_ret ⟨by simp, _, by simp; rfl, by simp [sameB, e1, e2, e3], _, by simp; rfl⟩
      · have e3' : (m.T == n.T) = false := by simpa using e3
        refine wa_sr ⟨_, by simp -implicitDefEqProofs [e1, e2, e3', hf]; rfl, ?_⟩
        exact wa_ret ⟨by simp, _, by simp; rfl, by simp [sameB, e3], _, by simp; rfl⟩
    · have e2' : (m.S == n.S) = false := by simpa using e2
      refine wa_sr ⟨_, by simp -implicitDefEqProofs [e1, e2', hf]; rfl, ?_⟩
      exact wa_ret ⟨by simp, _, by simp; rfl, by simp [sameB, e2], _, by simp; rfl⟩
  · have e1' : (m.N == n.N) = false := by simpa using e1
    refine wa_sr ⟨_, by simp -implicitDefEqProofs [e1', hf]; rfl, ?_⟩
    exact wa_ret ⟨by simp, _, by simp; rfl, by simp [sameB, e1], _, by simp; rfl⟩

theorem sameB_false {m n : Net} (h : ¬ (m.N = n.N ∧ m.S = n.S ∧ m.T = n.T ∧ m.arcs = n.arcs)) : sameB m n = false := by simpa [sameB] using h
theorem sameB_true {m n : Net} (h : m.N = n.N ∧ m.S = n.S ∧ m.T = n.T ∧ m.arcs = n.arcs) : sameB m n = true := by simpa [sameB] using h

theorem pc_samenet {m n : Net} {a b : V} {H : Heap} (h1 : AL H a m.arcs) (h2 : AL H b n.arcs) (hs : m.arcs.length ≤ 2 ^ 40) : Pc E 41 [NV m a, NV n b] H (.bool (sameB m n)) := Pc.mk fun G => by
  have hA := (h1.app G).app [nbox m a, nbox n b]
  have hB := (h2.app G).app [nbox m a, nbox n b]
  have hla : lenOf a = some m.arcs.length := Rw.len h1
  have hlb : lenOf b = some n.arcs.length := Rw.len h2
  clear h1 h2
  generalize H ++ G = H1 at *
  refine call_E rfl nc41 rfl ?_
  unfold gc41 NV
  refine wa_sr ⟨_, by simp [len_cells hla, len_cells hlb]; rfl, ?_⟩
  refine wa_cut (fun s => s.H = H1 ++ [nbox m a, nbox n b] ∧ s.τ 2 = .ptr H1.length 0 ∧ s.τ 3 = .ptr (H1.length + 1) 0 ∧ s.τ 33 = .bool (!decide (m.N = n.N ∧ m.S = n.S ∧ m.T = n.T ∧ m.arcs.length = n.arcs.length))) ?_ ?_
  · by_cases e1 : m.N = n.N
    · by_cases e2 : m.S = n.S
      · by_cases e3 : m.T = n.T
        · by_cases e4 : m.arcs.length = n.arcs.length
          · refine wa_regs ⟨_, by simp -implicitDefEqProofs [e1, e2, e3, e4, hla, hlb]; rfl, ?_⟩
            exact ⟨by simp [nbox, e1, e2, e3], by simp, by simp, by simp [e1, e2, e3, e4]⟩
          · have e4' : ((m.arcs.length : Int) != (n.arcs.length : Int)) = true := by simp; omega
            refine wa_regs ⟨_, by simp -implicitDefEqProofs [e1, e2, e3, e4', hla, hlb]; rfl, ?_⟩
            exact ⟨by simp [nbox, e1, e2, e3], by simp, by simp, by simp [e4]⟩
        · have e3' : (m.T != n.T) = true := by simpa using e3
          refine wa_regs ⟨_, by simp -implicitDefEqProofs [e1, e2, e3']; rfl, ?_⟩
          exact ⟨by simp [nbox, e1, e2], by simp, by simp, by simp [e3]⟩
      · have e2' : (m.S != n.S) = true := by simpa using e2
        refine wa_regs ⟨_, by simp -implicitDefEqProofs [e1, e2']; rfl, ?_⟩
        exact ⟨by simp [nbox, e1], by simp, by simp, by simp [e2]⟩
    · have e1' : (m.N != n.N) = true := by simpa using e1
      refine wa_regs ⟨_, by simp -implicitDefEqProofs [e1']; rfl, ?_⟩
      exact ⟨by simp [nbox], by simp, by simp, by simp [e1]⟩
  rintro ⟨τ, H2⟩ ⟨hH2, t2, t3, t33⟩
  dsimp only at hH2 t2 t3 t33
  subst hH2
  by_cases hd : m.N = n.N ∧ m.S = n.S ∧ m.T = n.T ∧ m.arcs.length = n.arcs.length
  case neg =>
    refine wa_if (t := true) (by simp only [ev]; rw [t33]; simp [hd]) (fun _ => ?_) (fun h => by cases h)
    refine wa_sr ⟨_, by simp; rfl, ?_⟩
    have : sameB m n = false := sameB_false fun ⟨a, b, c, d⟩ => hd ⟨a, b, c, by rw [d]⟩
    exact wa_rt ⟨by simp, _, by simp; rfl, by simp [this], _, by simp; rfl⟩
  refine wa_if (t := false) (by simp only [ev]; rw [t33]; simp [hd]) (fun h => by cases h) (fun _ => ?_)
  obtain ⟨d1, d2, d3, hlen⟩ := hd
  have p2 : rd (H1 ++ [nbox m a, nbox n b]) H1.length 3 = some a := by simp [nbox]
  have p3 : rd (H1 ++ [nbox m a, nbox n b]) (H1.length + 1) 3 = some b := by simp [nbox]
  refine wa_sr ⟨_, by simp -implicitDefEqProofs [t2, p2, hla]; rfl, ?_⟩
  refine wa_cut (fun s => s.H = H1 ++ [nbox m a, nbox n b] ∧ m.arcs = n.arcs) ?_ ?_
  · refine wa_for (n := m.arcs.length) (fun i (_ : Unit) => [(2, .ptr H1.length 0), (3, .ptr (H1.length + 1) 0)]) (fun i _ H' => H' = H1 ++ [nbox m a, nbox n b] ∧ ∀ (j : Nat) (hj : j < m.arcs.length), j < i → m.arcs[j] = n.arcs[j]'(by omega)) ()
      (by decide) (fun i hi => w64 (by omega) (by omega)) (by simp) (by simp) (by simp [Rg, t2, t3]) ⟨rfl, fun j _ h => by omega⟩ (by simp) ?_ ?_
    · rintro i _ τ H2 hi t37 t36 ⟨t2, t3, -⟩ ⟨rfl, hall⟩
      dsimp only [ev] at *
      have hi2 : i < n.arcs.length := by omega
      obtain ⟨k, o, c, rfl, _, _, hr⟩ := hA.at hi
      obtain ⟨k2, o2, c2, rfl, _, _, hr2⟩ := hB.at hi2
      have he := eqAll_arc m.arcs[i] n.arcs[i]
      refine wa_sr ⟨_, by simp [t37]; rfl, ?_⟩
      refine wa_dr rfl rfl ⟨_, by simp -implicitDefEqProofs [t2, t3, p2, p3, hi, hi2, hr, hr2, he]; rfl, ?_⟩
      by_cases hc : m.arcs[i] = n.arcs[i]
      · refine wa_cond (t := false) (by simp [hc]) (fun h => by cases h) (fun _ => wa_skip ?_)
        refine ⟨by simp [t37], by simp [t36], (), by simp [Rg, t2, t3], rfl, fun j hj hji => ?_⟩
        by_cases e : j = i
        · subst e; exact hc
        · exact hall j hj (by omega)
      · refine wa_cond (t := true) (by simp [hc]) (fun _ => ?_) (fun h => by cases h)
        refine wa_sr ⟨_, by simp; rfl, ?_⟩
        have : sameB m n = false := sameB_false fun ⟨_, _, _, d⟩ => hc (by simp [d])
        exact wa_ret ⟨by simp, _, by simp; rfl, by simp [this], _, by simp; rfl⟩
    · rintro _ τ H2 - ⟨rfl, hall⟩
      exact ⟨rfl, List.ext_getElem hlen fun j h1 h2 => hall j h1 h1⟩
  · rintro ⟨τ, H2⟩ ⟨hH, he⟩
    dsimp only at hH
    refine wa_sr ⟨_, by simp; rfl, ?_⟩
    exact wa_ret ⟨by simp, _, by simp; rfl, by simp [sameB_true ⟨d1, d2, d3, he⟩], [nbox m a, nbox n b], by simpa using hH⟩

/-! ### Turned -/
def flip (a : Ar.Arc) : Ar.Arc := ⟨a.dst, a.src, a.cap⟩
def turn (n : Net) : Net := ⟨n.N, n.T, n.S, n.arcs.map flip⟩
theorem flip_flip (a : Ar.Arc) : flip (flip a) = a := rfl
theorem turn_turn (n : Net) : turn (turn n) = n := by
  obtain ⟨N, S, T, l⟩ := n
  simp only [turn, List.map_map]
  have : flip ∘ flip = id := rfl
  rw [this, List.map_id]

theorem acells_wrc (l : List Ar.Arc) (i : Nat) (a' : Ar.Arc) (hi : i < l.length) : wrc (acells l) (i * 3) a'.cells = acells (l.set i a') := by
  obtain ⟨x, y, z⟩ := a'
  have h1 := acells_set l i 0 (.int .i64 x) ⟨x, l[i].dst, l[i].cap⟩ hi (by omega) rfl
  have h2 := acells_set (l.set i ⟨x, l[i].dst, l[i].cap⟩) i 1 (.int .i64 y) ⟨x, y, l[i].cap⟩ (by simpa using hi) (by omega) (by simp [Arc.cells])
  have h3 := acells_set ((l.set i ⟨x, l[i].dst, l[i].cap⟩).set i ⟨x, y, l[i].cap⟩) i 2 (.int .i64 z) ⟨x, y, z⟩ (by simpa using hi) (by omega) (by simp [Arc.cells])
  simp only [List.set_set, Nat.add_zero] at h1 h2 h3
  show (((acells l).set (i * 3) _).set (i * 3 + 1) _).set (i * 3 + 1 + 1) _ = _
  rw [h1, h2]
  exact h3
theorem wrN {H : Heap} {k o : Nat} {cs vs : List V} {m : Ar.Mode} (hk : H[k]? = some (.cells cs m)) (hm : m.wr = true) (ho : o + vs.length ≤ cs.length) (hv : vs.all V.scalar = true) : wr H k o vs = some (H.set k (.cells (wrc cs o vs) m)) := by
  unfold wr
  rw [hk]
  simp only [hm]
  rw [if_neg (by simp), if_pos ho, if_pos hv]
theorem MB.arc3 {B k3 : Nat} {H : Heap} {m : Net} {x : V} (h : MB B H k3 m x) {i : Nat} (hi : i < m.arcs.length) (a' : Ar.Arc) : ∃ k H', x = .sl k 0 m.arcs.length m.arcs.length ∧ wr H k (i * 3) a'.cells = some H' ∧ H'.length = H.length ∧ MB B H' k3 { m with arcs := m.arcs.set i a' } x ∧ ∀ k', k' ≠ k → H'[k']? = H[k']? := by
  rcases h.own with ⟨_, hn⟩ | ⟨k, md, rfl, hb, hk, hmd⟩
  · rw [hn] at hi; simp at hi
  · have hmd' : md = .gr 3 := by
      rcases hmd with h | ⟨_, hn⟩
      · exact h
      · rw [hn] at hi; simp at hi
    subst hmd'
    have hkl := (List.getElem?_eq_some_iff.1 hk).1
    refine ⟨k, H.set k (.cells (acells (m.arcs.set i a')) (.gr 3)), rfl, ?_, by simp, ⟨h.ge, ?_, .inr ⟨k, .gr 3, by simp, hb, List.getElem?_set_self hkl, .inl rfl⟩, h.ne⟩, fun k' hk' => List.getElem?_set_ne (fun e => hk' e.symm)⟩
    · rw [wrN hk rfl (by rw [acells_length]; simp [Arc.cells]; omega) rfl, acells_wrc _ _ _ hi]
    · rw [List.getElem?_set_ne (h.ne k rfl)]
      exact h.box
end Go.Proofs.Ytpojdgeginigjaa
/- Nets, turned: the walk; sums of capacities. -/
set_option linter.unusedSimpArgs false
set_option linter.unusedVariables false
namespace Go.Proofs.Ytpojdgeginigjaa
open Go Go.Ar
set_option maxRecDepth 100000

theorem Hp_frame {H0 H H' : Heap} (h : Hp H0 H []) {k : Nat} (hl : H'.length = H.length) (hf : ∀ k', k' ≠ k → H'[k']? = H[k']?) (hk : H0.length ≤ k) : Hp H0 H' [] :=
  ⟨by rw [hl]; exact h.le, fun j hj => by rw [hf j (by omega)]; exact h.old j hj, fun p hp => by simp at hp, List.nodup_nil⟩
theorem Hp_set {H0 H : Heap} (h : Hp H0 H []) {k : Nat} (hk : H0.length ≤ k) (b : Blk) : Hp H0 (H.set k b) [] := Hp_frame h (k := k) (by simp) (fun k' hk' => List.getElem?_set_ne (fun e => hk' e.symm)) hk
theorem Hp_app {H0 H : Heap} (h : Hp H0 H []) (G : Heap) : Hp H0 (H ++ G) [] := h.x (Hp.app H G)

set_option maxHeartbeats 1000000 in
theorem turn_ok {n : Net} {a : V} {H : Heap} (h : AL H a n.arcs) (hx : Sl a) (hs : n.arcs.length ≤ 2 ^ 20) : ∃ x H', callL E (.f 44) [NV n a] H = some (NV (turn n) x, H') ∧ (∃ G, H' = H ++ G) ∧ Own3 H' H.length x (turn n).arcs := by
  have key : ∃ v H', callL E (.f 44) [NV n a] H = some (v, H') ∧ ∃ x, v = NV (turn n) x ∧ (∃ G, H' = H ++ G) ∧ Own3 H' H.length x (turn n).arcs := by
    refine call_E rfl nc44 rfl ?_
    unfold gc44
    have hl : lenOf a = some n.arcs.length := Rw.len h
    have hA := h.app [nbox n a, .cells [.int .i64 0, .int .i64 0, .int .i64 0, .nils] .ex]
    have hpH := Hp.app H [nbox n a, .cells [.int .i64 0, .int .i64 0, .int .i64 0, .nils] .ex]
    have hk0 : (H ++ [nbox n a, .cells [.int .i64 0, .int .i64 0, .int .i64 0, .nils] .ex])[H.length]? = some (nbox n a) := by simp
    have hk1 : (H ++ [nbox n a, .cells [.int .i64 0, .int .i64 0, .int .i64 0, .nils] .ex])[H.length + 1]? = some (.cells [.int .i64 0, .int .i64 0, .int .i64 0, .nils] .ex) := by simp
    have hlA : (H ++ [nbox n a, .cells [.int .i64 0, .int .i64 0, .int .i64 0, .nils] .ex]).length = H.length + 2 := by simp
    unfold NV
    refine wa_sr ⟨_, by simp [len_cells hl]; rfl, ?_⟩
    change WP E _ ⟨_, H ++ [nbox n a, .cells [.int .i64 0, .int .i64 0, .int .i64 0, .nils] .ex]⟩ _
    generalize H ++ [nbox n a, .cells [.int .i64 0, .int .i64 0, .int .i64 0, .nils] .ex] = HA at *
    generalize hkb : H.length = kb at *
    obtain ⟨x, H1, c1, ⟨G1, hG1⟩, c3⟩ := copy_ok hA hx hs
    unfold NV at c1
    have hxs : x.scalar = true := len_scalar (Rw.len c3.al)
    have b1 : rdn HA kb 0 4 = some [.int .i64 n.N, .int .i64 n.S, .int .i64 n.T, a] := by simp [rdn, hk0, nbox]
    refine wa_sr ⟨_, by simp -implicitDefEqProofs [b1, c1, hxs]; rfl, ?_⟩
    have hp1 : Hp HA H1 [] := by rw [hG1]; exact Hp.app _ _
    have hp2 := Hp_app hp1 [nbox n x]
    have hm0 : MB HA.length (H1 ++ [nbox n x]) H1.length n x := ⟨by rw [hG1]; simp, by simp, (c3.app _), fun k hk => by have := Rw.lt c3.al k hk; omega⟩
    change WP E _ ⟨_, H1 ++ [nbox n x]⟩ _
    generalize H1 ++ [nbox n x] = H2 at *
    generalize hk3 : H1.length = k3 at *
    have hk3B := hm0.ge
    have g1 : rd H2 kb 2 = some (.int .i64 n.T) := by simp [rd, hp2.old kb (by omega), hk0, nbox]
    have g2 : rd H2 kb 1 = some (.int .i64 n.S) := by simp [rd, hp2.old kb (by omega), hk0, nbox]
    have g3 : rd H2 kb 3 = some a := by simp [rd, hp2.old kb (by omega), hk0, nbox]
    obtain ⟨H3, w3, hm3, hp3⟩ : ∃ X, wr H2 k3 1 [.int .i64 n.T] = some X ∧ MB HA.length X k3 { n with S := n.T } x ∧ Hp HA X [] :=
      ⟨_, wr1 (o := 1) (v := .int .i64 n.T) (cs := [.int .i64 n.N, .int .i64 n.S, .int .i64 n.T, x]) hm0.box rfl (by simp) rfl, hm0.put (m' := { n with S := n.T }) rfl, Hp_set hp2 hk3B _⟩
    obtain ⟨H4, w4, hm4, hp4⟩ : ∃ X, wr H3 k3 2 [.int .i64 n.S] = some X ∧ MB HA.length X k3 { n with S := n.T, T := n.S } x ∧ Hp HA X [] :=
      ⟨_, wr1 (o := 2) (v := .int .i64 n.S) (cs := [.int .i64 n.N, .int .i64 n.T, .int .i64 n.T, x]) hm3.box rfl (by simp) rfl, hm3.put (m' := { n with S := n.T, T := n.S }) rfl, Hp_set hp3 hk3B _⟩
    have hne : kb ≠ k3 := by omega
    refine wa_seq (wa_dreg (s' := _) (by
      simp -implicitDefEqProofs [dinsL, dins, g1, g2, w3, w4]
      rfl) (by simp [Chk.ok, V.blk?, hne]) ?_)
    have g4 : rd H4 kb 3 = some a := by simp [rd, hp4.old kb (by omega), hk0, nbox]
    refine wa_sr ⟨_, by simp -implicitDefEqProofs [g4, hl]; rfl, ?_⟩
    refine wa_cut (fun s => s.τ 2 = .ptr (kb + 1) 0 ∧ s.τ 3 = .ptr k3 0 ∧ MB HA.length s.H k3 (turn n) x ∧ Hp HA s.H []) ?_ ?_
    · refine wa_for (n := n.arcs.length) (fun j (_ : Unit) => [(2, .ptr (kb + 1) 0), (3, .ptr k3 0), (15, a)]) (fun j _ H' => MB HA.length H' k3 { n with S := n.T, T := n.S, arcs := mixL flip n.arcs j } x ∧ Hp HA H' []) ()
        (by decide) (fun i hi => w64 (by omega) (by omega)) (by simp) (by simp) (by simp [Rg]) ⟨by simpa [mixL] using hm4, hp4⟩ (by simp) ?_ ?_
      · rintro j _ τ H5 hj t17 t16 ⟨t2, t3, t15, -⟩ ⟨hM5, hp5⟩
        dsimp only [ev] at *
        have hA5 : AL H5 a n.arcs := hp5.rw hA
        obtain ⟨k, o, c, hae, _, _, hrd⟩ := hA5.at hj
        unfold Arc.cells at hrd
        refine wa_sr ⟨_, by simp -implicitDefEqProofs [t15, t17, hae, hj, hrd]; rfl, ?_⟩
        have hM6 := hM5.app [.cells (n.arcs[j].cells) .ex]
        have hp6 := Hp_app hp5 [.cells (n.arcs[j].cells) .ex]
        have hk5 : ∀ o, rd (H5 ++ [.cells (n.arcs[j].cells) .ex]) H5.length o = n.arcs[j].cells[o]? := fun o => by simp
        change WP E _ ⟨_, H5 ++ [.cells (n.arcs[j].cells) .ex]⟩ _
        generalize H5 ++ [Blk.cells (n.arcs[j].cells) .ex] = H6 at *
        generalize hk5e : H5.length = k5 at *
        have q3 := hM6.rd3 []
        rw [List.append_nil] at q3
        have p0 : rd H6 k5 0 = some (.int .i64 n.arcs[j].src) := hk5 0
        have p1 : rd H6 k5 1 = some (.int .i64 n.arcs[j].dst) := hk5 1
        have p2 : rd H6 k5 2 = some (.int .i64 n.arcs[j].cap) := hk5 2
        obtain ⟨km, H7, hxe, w7, l7, hM7, f7⟩ := hM6.arc3 (i := j) (by simp only; rw [mixL_length _ _ _ (by omega)]; exact hj) (flip n.arcs[j])
        simp only [mixL_length _ _ _ (Nat.le_of_lt hj)] at hxe
        simp only [mixL_set flip _ _ hj] at hM7
        have hp7 := Hp_frame hp6 l7 f7 (hM6.own.ge km (by rw [hxe]; rfl))
        have w7' : wr H6 km (j * 3) [.int .i64 n.arcs[j].dst, .int .i64 n.arcs[j].src, .int .i64 n.arcs[j].cap] = some H7 := w7
        refine wa_regs ⟨_, by simp -implicitDefEqProofs [t3, q3, p0, p1, p2, fillc, hxe, hj, w7']; rfl, ?_⟩
        exact ⟨by simp [t17], by simp [t16], (), by simp [Rg, t2, t3, t15, hae], hM7, hp7⟩
      · rintro _ τ H5 ⟨t2, t3, t15, -⟩ ⟨hM5, hp5⟩
        rw [mixL_full] at hM5
        exact ⟨t2, t3, hM5, hp5⟩
    · rintro ⟨τ, H5⟩ ⟨t2, t3, hM5, hp5⟩
      dsimp only at t2 t3 hM5 hp5
      have hr5 := hM5.rd []
      rw [List.append_nil] at hr5
      have hk15 : H5[kb + 1]? = some (.cells [.int .i64 0, .int .i64 0, .int .i64 0, .nils] .ex) := by rw [hp5.old (kb + 1) (by omega)]; exact hk1
      have hk15l := (List.getElem?_eq_some_iff.1 hk15).1
      obtain ⟨H6, w6, hk6, hf6, hl6⟩ : ∃ X, wr H5 (kb + 1) 0 [.int .i64 (turn n).N, .int .i64 (turn n).S, .int .i64 (turn n).T, x] = some X ∧ X[kb + 1]? = some (nbox (turn n) x) ∧ (∀ k, k ≠ kb + 1 → X[k]? = H5[k]?) ∧ X.length = H5.length :=
        ⟨_, wrAll (vs := [.int .i64 (turn n).N, .int .i64 (turn n).S, .int .i64 (turn n).T, x]) hk15 rfl rfl (by simp only [List.all_cons, List.all_nil, hxs]; rfl), List.getElem?_set_self hk15l, fun k hk => List.getElem?_set_ne (fun e => hk e.symm), by simp⟩
      refine wa_sr ⟨_, by simp -implicitDefEqProofs [t2, t3, hr5, w6]; rfl, ?_⟩
      have hr6 : rdn H6 (kb + 1) 0 4 = some [.int .i64 (turn n).N, .int .i64 (turn n).S, .int .i64 (turn n).T, x] := by simp [rdn, hk6, nbox]
      have hp7 : Hp H H5 [] := hpH.x hp5
      refine wa_ret ⟨by simp, _, by simp -implicitDefEqProofs [t2, hr6]; rfl, x, rfl, ?_, ?_⟩
      · exact (Hp_frame hp7 hl6 hf6 (by omega)).eq
      · have : Own3 H6 HA.length x (turn n).arcs := hM5.own.frame fun k hk => hf6 k (by have := hM5.own.ge k hk; omega)
        rcases this with ⟨h2, h3⟩ | ⟨k, m, h2, h3, h4, h5⟩
        · exact .inl ⟨h2, h3⟩
        · exact .inr ⟨k, m, h2, by omega, h4, h5⟩
  obtain ⟨v, H', h, x, rfl, h2, h3⟩ := key
  exact ⟨x, H', h, h2, h3⟩

/-! ### Sums -/
def capS : List Ar.Arc → Int
  | [] => 0
  | x :: l => x.cap + capS l
theorem capS_cons (x : Ar.Arc) (l : List Ar.Arc) : capS (x :: l) = x.cap + capS l := rfl
theorem capS_nonneg : ∀ (l : List Ar.Arc), (∀ x, x ∈ l → 0 ≤ x.cap) → 0 ≤ capS l
  | [], _ => Int.le_refl _
  | x :: l, h => by
    have h1 := h x (by simp)
    have h2 := capS_nonneg l fun y hy => h y (by simp [hy])
    rw [capS_cons]; omega
theorem sumT_yes : ∀ (l : List Ar.Arc) (left : Int), (∀ x, x ∈ l → 0 ≤ x.cap) → capS l ≤ left → sumT left l = some (left - capS l)
  | [], left, _, _ => by simp [sumT, capS]
  | x :: l, left, h, hc => by
    have h1 := h x (by simp)
    have hl : ∀ y, y ∈ l → 0 ≤ y.cap := fun y hy => h y (by simp [hy])
    have h2 := capS_nonneg l hl
    rw [capS_cons] at hc
    simp only [sumT]
    rw [if_neg (by omega), sumT_yes l _ hl (by omega), capS_cons]
    congr 1; omega
theorem sumT_no : ∀ (l : List Ar.Arc) (left : Int), 0 ≤ left → ¬ ((∀ x, x ∈ l → 0 ≤ x.cap) ∧ capS l ≤ left) → sumT left l = none
  | [], left, h0, h => absurd ⟨fun x hx => by simp at hx, h0⟩ h
  | x :: l, left, h0, h => by
    simp only [sumT]
    by_cases h1 : x.cap < 0 ∨ left < x.cap
    · rw [if_pos h1]
    · rw [if_neg h1]
      refine sumT_no l _ (by omega) fun ⟨h2, h3⟩ => h ⟨fun y hy => ?_, by rw [capS_cons]; omega⟩
      rcases List.mem_cons.1 hy with rfl | hy
      · omega
      · exact h2 y hy
theorem sumOk_iff (l : List Ar.Arc) : sumOk l = true ↔ (∀ x, x ∈ l → 0 ≤ x.cap) ∧ capS l ≤ big := by
  unfold sumOk
  by_cases h : (∀ x, x ∈ l → 0 ≤ x.cap) ∧ capS l ≤ big
  · rw [sumT_yes l big h.1 h.2]; exact ⟨fun _ => h, fun _ => rfl⟩
  · rw [sumT_no l big (by unfold big; omega) h]; exact ⟨fun h' => (by cases h'), fun h' => absurd h' h⟩
theorem sumV_eq (l : List Ar.Arc) : sumV l = if sumOk l = true then capS l else 0 := by
  have h := sumOk_iff l
  unfold sumV
  by_cases hk : sumOk l = true
  · rw [if_pos hk, sumT_yes l big (h.1 hk).1 (h.1 hk).2]
    show big - (big - capS l) = _
    omega
  · rw [if_neg hk, sumT_no l big (by unfold big; omega) (fun h' => hk (h.2 h'))]
theorem capS_append (a b : List Ar.Arc) : capS (a ++ b) = capS a + capS b := by
  induction a with
  | nil => simp [capS]
  | cons x l ih => simp only [List.cons_append, capS, ih]; omega
theorem capS_flip (l : List Ar.Arc) : capS (l.map flip) = capS l := by
  induction l with
  | nil => rfl
  | cons x l ih => simp only [List.map_cons, capS, ih]; rfl
theorem sumOk_flip (l : List Ar.Arc) : sumOk (l.map flip) = sumOk l := by
  rw [Bool.eq_iff_iff, sumOk_iff, sumOk_iff, capS_flip]
  constructor
  · rintro ⟨h1, h2⟩; exact ⟨fun x hx => h1 (flip x) (List.mem_map.2 ⟨x, hx, rfl⟩), h2⟩
  · rintro ⟨h1, h2⟩
    refine ⟨fun x hx => ?_, h2⟩
    obtain ⟨y, hy, rfl⟩ := List.mem_map.1 hx
    exact h1 y hy
theorem sumV_flip (l : List Ar.Arc) : sumV (l.map flip) = sumV l := by rw [sumV_eq, sumV_eq, sumOk_flip, capS_flip]
theorem chk_turn (n : Net) : chk (turn n) = chk n := by
  have e1 : okN (turn n) = okN n := rfl
  have e2 : okM (turn n) = okM n := by simp [okM, turn]
  have e3 : okE (turn n) = okE n := by
    rw [Bool.eq_iff_iff, okE_iff, okE_iff]
    show (0 ≤ n.T ∧ n.T < n.N) ∧ (0 ≤ n.S ∧ n.S < n.N) ∧ n.T ≠ n.S ↔ _
    omega
  have e4 : ((turn n).arcs.all fun x => vtx (turn n) x.src && vtx (turn n) x.dst) = (n.arcs.all fun x => vtx n x.src && vtx n x.dst) := by
    simp only [turn, List.all_map]
    congr 1
    funext x
    exact Bool.and_comm _ _
  have e5 : ((turn n).arcs.all fun x => decide (0 ≤ x.cap)) = (n.arcs.all fun x => decide (0 ≤ x.cap)) := by
    simp only [turn, List.all_map]; rfl
  have e6 : sumOk (turn n).arcs = sumOk n.arcs := sumOk_flip n.arcs
  unfold chk
  rw [e1, e2, e3, e4, e5, e6]
theorem flip_inj {l m : List Ar.Arc} : l.map flip = m.map flip ↔ l = m := by
  constructor
  · intro h
    have := congrArg (List.map flip) h
    simp only [List.map_map] at this
    have e : flip ∘ flip = id := rfl
    rwa [e, List.map_id, List.map_id] at this
  · rintro rfl; rfl
theorem same_turn (n o : Net) : sameB (turn n) (turn o) = sameB n o := by
  rw [Bool.eq_iff_iff]
  simp only [sameB, decide_eq_true_eq, turn, flip_inj]
  constructor
  · rintro ⟨a, b, c, d⟩; exact ⟨a, c, b, d⟩
  · rintro ⟨a, b, c, d⟩; exact ⟨a, c, b, d⟩
end Go.Proofs.Ytpojdgeginigjaa
/- NetSums: the walk. -/
set_option linter.unusedSimpArgs false
set_option linter.unusedVariables false
namespace Go.Proofs.Ytpojdgeginigjaa
open Go Go.Ar
set_option maxRecDepth 100000

theorem acells_take (l : List Ar.Arc) (m : Nat) : (acells l).take (m * 3) = acells (l.take m) := by
  induction l generalizing m with
  | nil => simp [acells]
  | cons x l ih =>
    cases m with
    | zero => simp [acells]
    | succ m =>
      have := ih m
      simp only [acells, List.flatMap_cons, List.take_succ_cons] at this ⊢
      rw [List.take_append, List.take_of_length_le (by simp [Arc.cells]; omega)]
      have e : (m + 1) * 3 - (Arc.cells x).length = m * 3 := by simp [Arc.cells]; omega
      rw [e, this]
theorem acells_drop (l : List Ar.Arc) (m : Nat) : (acells l).drop (m * 3) = acells (l.drop m) := by
  induction l generalizing m with
  | nil => simp [acells]
  | cons x l ih =>
    cases m with
    | zero => simp [acells]
    | succ m =>
      have := ih m
      simp only [acells, List.flatMap_cons, List.drop_succ_cons] at this ⊢
      rw [List.drop_append, List.drop_eq_nil_of_le (by simp [Arc.cells]; omega)]
      have e : (m + 1) * 3 - (Arc.cells x).length = m * 3 := by simp [Arc.cells]; omega
      rw [e, this]; rfl
/-- A slice of arcs, sliced. -/
theorem AL.slice {H : Heap} {x : V} {l : List Ar.Arc} (h : AL H x l) (hg : SlG H 3 x) {lo hi : Option V} {i m : Nat} (hlo : loOf lo = some (i : Int)) (hhi : hiOf l.length hi = some (m : Int)) (h1 : i ≤ m) (h2 : m ≤ l.length) :
    ∃ x', slcv H 3 x lo hi = some x' ∧ AL H x' ((l.take m).drop i) ∧ SlG H 3 x' ∧ ∀ k, x'.blk? = some k → x.blk? = some k := by
  obtain ⟨x', a1, a2, a3, a4⟩ := Rw.slice h hg hlo hhi h1 h2
  refine ⟨x', a1, ?_, a3, a4⟩
  have e : ((l.flatMap Arc.cells).drop (i * 3)).take ((m - i) * 3) = ((l.take m).drop i).flatMap Arc.cells := by
    have h3 := acells_take l m
    have h4 := acells_drop (l.take m) i
    simp only [acells] at h3 h4
    rw [← h4, ← h3, List.drop_take]
    congr 1
    omega
  rw [e] at a2
  have e2 : ((l.take m).drop i).length = m - i := by simp; omega
  unfold AL
  rw [e2]; exact a2
/-- One arc more. -/
theorem push3 {H : Heap} {B : Nat} {x : V} {l : List Ar.Arc} (h : Own3 H B x l) (hB : B ≤ H.length) (c : Ar.Arc) (hs : l.length ≤ 2 ^ 20) : ∃ x' H', appendv (H ++ [.cells c.cells .ex]) 3 24 x (.sl H.length 0 1 1) = some (x', H') ∧ Own3 H' B x' (l ++ [c]) ∧ H.length ≤ H'.length ∧ (∀ k, k < H.length → x.blk? ≠ some k → H'[k]? = H[k]?) ∧ (∀ k, x'.blk? = some k → H.length ≤ k) := by
  have hc : cellsOf (H ++ [.cells c.cells .ex]) 3 (.sl H.length 0 1 1) = some c.cells := by simp [cellsOf, rdn, Arc.cells]
  have hsc : c.cells.all V.scalar = true := rfl
  have hap : ∀ l : List Ar.Arc, acells l ++ c.cells = acells (l ++ [c]) := fun l => by simp [acells]
  rcases h with ⟨rfl, rfl⟩ | ⟨k, m, rfl, hb, hk, hm⟩
  · refine ⟨.sl (H.length + 1) 0 1 1, H ++ [.cells c.cells .ex] ++ [.cells c.cells (.gr 3)], ?_, .inr ⟨H.length + 1, .gr 3, rfl, by omega, by simp [acells], .inl rfl⟩, by simp, fun k hk _ => by simp [List.getElem?_append_left, hk], fun k hk => by simp [V.blk?] at hk; omega⟩
    unfold appendv
    simp only [lenOf, hc, hsc]
    rw [if_neg (by simp), if_neg (by omega), if_pos (by unfold lim; omega)]
    simp
  · have hkl := (List.getElem?_eq_some_iff.1 hk).1
    have hk' : (H ++ [Blk.cells c.cells .ex])[k]? = some (.cells (acells l) m) := by rw [List.getElem?_append_left hkl]; exact hk
    have hal := acells_length l
    rcases hm with rfl | ⟨rfl, rfl⟩
    · refine ⟨.sl (H.length + 1) 0 (l.length + 1) (l.length + 1), (H ++ [Blk.cells c.cells .ex]).set k .dead ++ [.cells (acells (l ++ [c])) (.gr 3)], ?_, .inr ⟨H.length + 1, .gr 3, by simp, by omega, ?_, .inl rfl⟩, by simp; omega, fun j hj hne => ?_, fun j hj => by simp [V.blk?] at hj; omega⟩
      · unfold appendv
        simp only [lenOf, hc, hsc, hk']
        rw [if_neg (by simp), if_pos (by omega), if_neg (by omega), if_pos (by unfold lim; omega), if_pos ⟨trivial, trivial⟩, List.take_of_length_le (by omega), hap]
        simp
      · rw [List.getElem?_append_right (by simp)]; simp
      · rw [List.getElem?_append_left (by simp; omega), List.getElem?_set_ne (fun e => hne (by rw [e]; rfl)), List.getElem?_append_left hj]
    · refine ⟨.sl (H.length + 1) 0 1 1, H ++ [.cells c.cells .ex] ++ [.cells c.cells (.gr 3)], ?_, .inr ⟨H.length + 1, .gr 3, rfl, by omega, by simp [acells], .inl rfl⟩, by simp, fun j hj _ => by simp [List.getElem?_append_left, hj], fun j hj => by simp [V.blk?] at hj; omega⟩
      unfold appendv
      simp only [lenOf, hc, hsc, hk']
      rw [if_neg (by simp), if_pos (by simp), if_neg (by simp), if_pos (by unfold lim; simp)]
      simp [acells]

/-- A row of arcs, appended. -/
theorem append3 {H : Heap} {B : Nat} {x y : V} {l l2 : List Ar.Arc} (h : Own3 H B x l) (hB : B ≤ H.length) (hy : AL H y l2) (hs : l.length + l2.length ≤ 2 ^ 20) : ∃ x' H', appendv H 3 24 x y = some (x', H') ∧ Own3 H' B x' (l ++ l2) ∧ H.length ≤ H'.length ∧ (∀ k, k < H.length → x.blk? ≠ some k → H'[k]? = H[k]?) := by
  have hyl : lenOf y = some l2.length := Rw.len hy
  have hyc : cellsOf H 3 y = some (acells l2) := hy.cells
  have hsc := acells_scalar l2
  have hap : acells l ++ acells l2 = acells (l ++ l2) := by simp [acells]
  have hll := acells_length l
  have hll2 := acells_length l2
  by_cases h0 : l2.length = 0
  · have : l2 = [] := List.eq_nil_of_length_eq_zero h0
    subst this
    rw [List.append_nil]
    rcases h with ⟨rfl, rfl⟩ | ⟨k, m, rfl, hb, hk, hm⟩
    · refine ⟨.nils, H, ?_, .inl ⟨rfl, rfl⟩, Nat.le_refl _, fun k _ _ => rfl⟩
      unfold appendv
      simp only [hyl, hyc, hsc]
      rw [if_neg (by simp), if_pos (by simp)]
    · have hwm : m.wr = true := by rcases hm with rfl | ⟨rfl, _⟩ <;> rfl
      have hw := wrN (o := 0 + l.length * 3) (vs := acells []) hk hwm (by rw [hll]; simp [acells]) rfl
      have he : wrc (acells l) (0 + l.length * 3) (acells []) = acells l := rfl
      rw [he] at hw
      have hset : H.set k (.cells (acells l) m) = H := by
        refine List.ext_getElem? fun j => ?_
        by_cases e : k = j
        · subst e; rw [List.getElem?_set_self (List.getElem?_eq_some_iff.1 hk).1]; exact hk.symm
        · rw [List.getElem?_set_ne e]
      rw [hset] at hw
      refine ⟨.sl k 0 l.length l.length, H, ?_, .inr ⟨k, m, rfl, hb, hk, hm⟩, Nat.le_refl _, fun k _ _ => rfl⟩
      unfold appendv
      simp only [hyl, hyc, hsc, hk]
      rw [if_neg (by simp), if_pos (by omega), if_pos (by simp), hw]
      simp
  · rcases h with ⟨rfl, rfl⟩ | ⟨k, m, rfl, hb, hk, hm⟩
    · refine ⟨.sl H.length 0 l2.length l2.length, H ++ [.cells (acells l2) (.gr 3)], ?_, .inr ⟨H.length, .gr 3, by simp, hB, by simp, .inl rfl⟩, by simp, fun k hk _ => by rw [List.getElem?_append_left hk]⟩
      unfold appendv
      simp only [hyl, hyc, hsc]
      rw [if_neg (by simp), if_neg h0, if_pos (by unfold lim; omega)]
    · rcases hm with rfl | ⟨rfl, rfl⟩
      · refine ⟨.sl H.length 0 (l.length + l2.length) (l.length + l2.length), H.set k .dead ++ [.cells (acells (l ++ l2)) (.gr 3)], ?_, .inr ⟨H.length, .gr 3, by simp, hB, ?_, .inl rfl⟩, by simp, fun j hj hne => ?_⟩
        · unfold appendv
          simp only [hyl, hyc, hsc, hk]
          rw [if_neg (by simp), if_pos (by omega), if_neg (by omega), if_pos (by unfold lim; omega), if_pos ⟨trivial, trivial⟩, List.take_of_length_le (by omega), hap]
        · rw [List.getElem?_append_right (by simp)]; simp
        · rw [List.getElem?_append_left (by simpa using hj), List.getElem?_set_ne (fun e => hne (by rw [e]; rfl))]
      · refine ⟨.sl H.length 0 l2.length l2.length, H ++ [.cells (acells l2) (.gr 3)], ?_, .inr ⟨H.length, .gr 3, by simp, hB, by simp, .inl rfl⟩, by simp, fun j hj _ => by rw [List.getElem?_append_left hj]⟩
        unfold appendv
        simp only [hyl, hyc, hsc, hk]
        rw [if_neg (by simp), if_pos (by simp), if_neg (by simp only [List.length_nil]; omega), if_pos (by unfold lim; simp only [List.length_nil]; omega)]
        simp [acells]

theorem blk_ptr (k o : Nat) : (V.ptr k o).blk? = some k := rfl
theorem blk_sl (k o n c : Nat) : (V.sl k o n c).blk? = some k := rfl
theorem capS_perm {k : Nat} (l : List Ar.Arc) : capS (l.drop k ++ l.take k) = capS l := by
  rw [capS_append, Int.add_comm, ← capS_append, List.take_append_drop]
theorem sumOk_rot (k : Nat) (l : List Ar.Arc) : sumOk (l.drop k ++ l.take k) = sumOk l := by
  rw [Bool.eq_iff_iff, sumOk_iff, sumOk_iff, capS_perm]
  have : ∀ x, x ∈ l.drop k ++ l.take k ↔ x ∈ l := fun x => by
    rw [List.mem_append]
    constructor
    · rintro (h | h)
      · exact List.mem_of_mem_drop h
      · exact List.mem_of_mem_take h
    · intro h
      rw [← List.take_append_drop k l, List.mem_append] at h
      exact h.symm
  simp only [this]
theorem sumV_rot (k : Nat) (l : List Ar.Arc) : sumV (l.drop k ++ l.take k) = sumV l := by rw [sumV_eq, sumV_eq, sumOk_rot, capS_perm]
theorem cap_le : ∀ (l : List Ar.Arc), (∀ x, x ∈ l → 0 ≤ x.cap) → ∀ x, x ∈ l → x.cap ≤ capS l
  | [], _, x, hx => by simp at hx
  | y :: l, h, x, hx => by
    have h1 := h y (by simp)
    have h2 := capS_nonneg l fun y hy => h y (by simp [hy])
    simp only [capS]
    rcases List.mem_cons.1 hx with rfl | hx
    · omega
    · have := cap_le l (fun y hy => h y (by simp [hy])) x hx
      omega
theorem sum_bounds (l : List Ar.Arc) : 0 ≤ sumV l ∧ sumV l ≤ big := by
  rw [sumV_eq]
  split
  · rename_i h
    have := (sumOk_iff l).1 h
    exact ⟨capS_nonneg l this.1, this.2⟩
  · unfold big; omega
theorem sumOk_snoc (l : List Ar.Arc) (c : Int) : sumOk (l ++ [⟨0, 0, c⟩]) = (sumOk l && (decide (0 ≤ c) && decide (c ≤ big - sumV l))) := by
  rw [Bool.eq_iff_iff, sumOk_iff, capS_append]
  simp only [Bool.and_eq_true, decide_eq_true_eq, capS]
  constructor
  · rintro ⟨h1, h2⟩
    have hc : 0 ≤ c := h1 ⟨0, 0, c⟩ (by simp)
    have hl : ∀ x, x ∈ l → 0 ≤ x.cap := fun x hx => h1 x (by simp [hx])
    have hk : sumOk l = true := (sumOk_iff l).2 ⟨hl, by omega⟩
    refine ⟨hk, hc, ?_⟩
    rw [sumV_eq, if_pos hk]; omega
  · rintro ⟨h1, h2, h3⟩
    rw [sumV_eq, if_pos h1] at h3
    obtain ⟨h4, h5⟩ := (sumOk_iff l).1 h1
    refine ⟨fun x hx => ?_, by omega⟩
    rcases List.mem_append.1 hx with hx | hx
    · exact h4 x hx
    · simp at hx; subst hx; exact h2
theorem sumV_snoc (l : List Ar.Arc) (c : Int) : sumV (l ++ [⟨0, 0, c⟩]) = if sumOk (l ++ [⟨0, 0, c⟩]) = true then sumV l + c else 0 := by
  rw [sumV_eq]
  split
  · rename_i h
    rw [sumOk_snoc, Bool.and_eq_true] at h
    rw [sumV_eq, if_pos h.1, capS_append]
    simp [capS]
  · rfl

set_option maxHeartbeats 4000000 in
theorem sums_law {H : Heap} {n0 : Net} {a0 : V} {tn c : Int} (hin : NetIn H n0 a0) (ht : 0 ≤ tn ∧ tn ≤ 255) (hc : i64b c) :
    ∃ v H', callL E (.f 4) [NV n0 a0, .int .u8 tn, .int .i64 c] H = some (v, H') ∧ v = .bool true := by
  refine call_E rfl nc4 rfl ?_
  unfold gc4
  unfold i64b at hc
  have hl0 : lenOf a0 = some n0.arcs.length := Rw.len hin.al
  obtain ⟨a, s1, hal, hsg, hab⟩ := AL.slice hin.al hin.sg (lo := none) (hi := some (.int .i64 ((min n0.arcs.length 100 : Nat) : Int))) (i := 0) (m := min n0.arcs.length 100) rfl rfl (by omega) (by omega)
  rw [List.drop_zero] at hal
  have hmn : (if (100 : Int) < n0.arcs.length then (100 : Int) else n0.arcs.length) = ((min n0.arcs.length 100 : Nat) : Int) := by split <;> omega
  have hsl : Sl a := by
    rcases hin.sl with rfl | ⟨k, o, l, cc, rfl⟩
    · simp only [slcv, hiOf, loOf] at s1
      split at s1
      · cases s1; exact .inl rfl
      · cases s1
    · simp only [slcv, hiOf, loOf] at s1
      split at s1
      · split at s1 <;> try (split at s1) <;> try (cases s1; done)
        all_goals (simp [moved] at s1; try exact .inr ⟨_, _, _, _, s1.symm⟩)
      · cases s1
  let n : Net := { n0 with arcs := n0.arcs.take (min n0.arcs.length 100) }
  have hnl : n.arcs.length ≤ 100 := by simp [n]; omega
  have hal : AL H a n.arcs := hal
  have hcap : ∀ x, x ∈ n.arcs → i64b x.cap := fun x hx => (hin.arc x (List.mem_of_mem_take hx)).2.2
  have hl : lenOf a = some n.arcs.length := Rw.len hal
  have has : a.scalar = true := len_scalar hl
  unfold NV
  refine wa_sr ⟨_, by simp [len_cells hl0]; rfl, ?_⟩
  have s1' : ∀ G, slcv (H ++ G) 3 a0 none (some (.int .i64 ((min n0.arcs.length 100 : Nat) : Int))) = some a := fun G => by
    rw [← s1]
    cases a0 with
    | sl k o l cc =>
      have hk := Rw.lt hin.al k rfl
      simp only [slcv]
      rw [List.getElem?_append_left hk]
    | _ => rfl
  refine wa_sr ⟨_, by simp -implicitDefEqProofs [hl0, hmn, s1', len_cells hl, has]; rfl, ?_⟩
  change WP E _ ⟨_, H ++ [nbox n a]⟩ _
  have hA := hal.app [nbox n a]
  have hgA := hsg.app [nbox n a]
  have r3 : ∀ G, rdn (H ++ [nbox n a] ++ G) H.length 0 4 = some [.int .i64 n.N, .int .i64 n.S, .int .i64 n.T, a] := fun G => by simp [nbox]
  have r33 : ∀ G, rd (H ++ [nbox n a] ++ G) H.length 3 = some a := fun G => by simp [nbox]
  have hk3 : H.length < (H ++ [nbox n a]).length := by simp
  have hablt : ∀ k, a.blk? = some k → k < H.length := Rw.lt hal
  refine wa_rg [(1, .int .u8 tn), (2, .int .i64 c), (3, .ptr H.length 0)] (by simp [Rg]) ?_
  rintro τ ⟨t1, t2, t3, -⟩
  dsimp only at t1 t2 t3
  clear_value n
  generalize H ++ [nbox n a] = HA at *
  generalize H.length = k3 at *
  obtain ⟨f1, g1⟩ := pc_sum hA (by omega)
  unfold NV at g1
  have r3e := r3 []
  have g1e := g1 []
  rw [List.append_nil] at r3e g1e
  rw [List.nil_append] at g1e
  have hsb := sum_bounds n.arcs
  unfold big at hsb
  refine wa_sr ⟨_, by simp -implicitDefEqProofs [t3, r3e, g1e]; rfl, ?_⟩
  refine wa_sr ⟨_, by simp -implicitDefEqProofs [t3, r33, hl]; rfl, ?_⟩
  generalize hG1 : f1 [] = G1 at *
  have hA1 := hA.app G1
  have hgA1 := hgA.app G1
  have r3' : ∀ G, rdn (HA ++ G1 ++ G) k3 0 4 = some [.int .i64 n.N, .int .i64 n.S, .int .i64 n.T, a] := fun G => by rw [List.append_assoc]; exact r3 _
  have r33' : ∀ G, rd (HA ++ G1 ++ G) k3 3 = some a := fun G => by rw [List.append_assoc]; exact r33 _
  have hk31 : k3 < (HA ++ G1).length := by simp; omega
  refine wa_rg [(1, .int .u8 tn), (2, .int .i64 c), (3, .ptr k3 0), (7, .int .i64 (sumV n.arcs)), (8, .bool (sumOk n.arcs)), (34, .bool (decide (0 < n.arcs.length)))] (by simp [Rg, t1, t2, t3]) ?_
  clear t1 t2 t3 g1 g1e r3e r3 r33 τ hG1
  rintro τ ⟨t1, t2, t3, t7, t8, t34, -⟩
  dsimp only at t1 t2 t3 t7 t8 t34
  have hHA : HA.length ≤ (HA ++ G1).length := by simp
  generalize HA ++ G1 = H1 at *
  -- turned round
  refine wa_cut (fun s => (∃ G, s.H = H1 ++ G) ∧ Rg s.τ [(2, .int .i64 c), (3, .ptr k3 0), (7, .int .i64 (sumV n.arcs)), (8, .bool (sumOk n.arcs))]) ?_ ?_
  · by_cases h0 : 0 < n.arcs.length
    case neg =>
      refine wa_cond (t := false) (by simp only [ev]; rw [t34]; simpa using h0) (fun h => by cases h) (fun _ => wa_skip ?_)
      exact ⟨⟨[], by simp⟩, by simp [Rg, t2, t3, t7, t8]⟩
    refine wa_cond (t := true) (by simp only [ev]; rw [t34]; simpa using h0) (fun _ => ?_) (fun h => by cases h)
    have hwt : IntKind.i64.wrap tn = tn := w64 (by omega) (by omega)
    obtain ⟨k, hk, hkl⟩ : ∃ k : Nat, tn.tmod n.arcs.length = k ∧ k < n.arcs.length := by
      have h1 := Int.tmod_lt_of_pos tn (by omega : (0 : Int) < n.arcs.length)
      have h2 : 0 ≤ tn.tmod n.arcs.length := Int.tmod_nonneg _ ht.1
      exact ⟨(tn.tmod n.arcs.length).toNat, by omega, by omega⟩
    have hne : n.arcs ≠ [] := by intro e; rw [e] at h0; simp at h0
    have r33e := r33' []
    have r3e := r3' []
    rw [List.append_nil] at r33e r3e
    refine wa_sr ⟨_, by simp -implicitDefEqProofs [t1, t3, r33e, hl, hwt, hne, hk]; rfl, ?_⟩
    refine wa_sr ⟨_, by simp -implicitDefEqProofs [t3, r3e, has]; rfl, ?_⟩
    change WP E _ ⟨_, H1 ++ [nbox n a]⟩ _
    have hA2 := hA1.app [nbox n a]
    have hgA2 := hgA1.app [nbox n a]
    have r10 : ∀ G, rdn (H1 ++ [nbox n a] ++ G) H1.length 0 4 = some [.int .i64 n.N, .int .i64 n.S, .int .i64 n.T, a] := fun G => by simp [nbox]
    have b10 : (H1 ++ [nbox n a])[H1.length]? = some (nbox n a) := by simp
    have r332 : ∀ G, rd (H1 ++ [nbox n a] ++ G) k3 3 = some a := fun G => by rw [List.append_assoc]; exact r33' _
    have hk32 : k3 < (H1 ++ [nbox n a]).length := by simp; omega
    have hk10 : H1.length < (H1 ++ [nbox n a]).length := by simp
    have eH : ∃ G0, H1 ++ [nbox n a] = H1 ++ G0 := ⟨_, rfl⟩
    have hl12 : H1.length ≤ (H1 ++ [nbox n a]).length := by simp
    generalize H1 ++ [nbox n a] = H2 at *
    generalize hk10e : H1.length = k10 at *
    obtain ⟨y1, p1, p2, p3, p4⟩ := AL.slice hA2 hgA2 (lo := some (.int .i64 (k : Int))) (hi := none) (i := k) (m := n.arcs.length) rfl rfl (by omega) (Nat.le_refl _)
    obtain ⟨y2, q1, q2, q3, q4⟩ := AL.slice hA2 hgA2 (lo := none) (hi := some (.int .i64 (k : Int))) (i := 0) (m := k) rfl rfl (by omega) (by omega)
    rw [List.take_length] at p2
    rw [List.drop_zero] at q2
    have hslx : ∀ (G : Heap) (lo hi : Option V) (z : V), slcv H2 3 a lo hi = some z → slcv (H2 ++ G) 3 a lo hi = some z := fun G lo hi z hz => by
      rw [← hz]
      cases a with
      | sl k o l cc =>
        have hk := Rw.lt hA2 k rfl
        simp only [slcv]
        rw [List.getElem?_append_left hk]
      | _ => rfl
    obtain ⟨x1, H3, u1, u2⟩ := appnew_ok (sz := 3) (by' := 24) (Rw.len p2) p2.cells (Rw.lt p2) (acells_scalar _) (acells_length _) (by simp; omega) (by simp; unfold lim; omega)
    have hO1 : Own3 H3 H2.length x1 (n.arcs.drop k) ∧ ∃ G, H3 = H2 ++ G := by
      rcases u2 with ⟨z0, _, _⟩ | ⟨_, rfl, rfl⟩
      · simp at z0; omega
      · exact ⟨.inr ⟨H2.length + 1, .gr 3, rfl, by omega, by rw [List.getElem?_append_right (by simp)]; simp [acells], .inl rfl⟩, _, List.append_assoc _ _ _⟩
    obtain ⟨hO1, G3, hG3⟩ := hO1
    have hq3 : AL H3 y2 (n.arcs.take k) := by rw [hG3]; exact q2.app G3
    obtain ⟨x2, H4, v1, v2, v3, v4⟩ := append3 hO1 (by rw [hG3]; simp) hq3 (by simp; omega)
    have hx2s : x2.scalar = true := len_scalar (Rw.len v2.al)
    have hx1k : ∀ j, j < H2.length → x1.blk? ≠ some j := fun j hj e => by have := hO1.ge j e; omega
    have hp4 : Hp H2 H4 [] := ⟨by have : H2.length ≤ H3.length := by rw [hG3]; simp
                                  omega, fun j hj => by rw [v4 j (by rw [hG3]; simp; omega) (hx1k j hj), hG3, List.getElem?_append_left hj], fun p hp => by simp at hp, List.nodup_nil⟩
    have b104 : H4[k10]? = some (nbox n a) := by rw [hp4.old k10 hk10]; exact b10
    obtain ⟨H5, w5, c5, f5, l5⟩ : ∃ X, wr H4 k10 3 [x2] = some X ∧ X[k10]? = some (nbox { n with arcs := n.arcs.drop k ++ n.arcs.take k } x2) ∧ (∀ j, j ≠ k10 → X[j]? = H4[j]?) ∧ X.length = H4.length :=
      ⟨_, wr1 (o := 3) (v := x2) (cs := [.int .i64 n.N, .int .i64 n.S, .int .i64 n.T, a]) b104 rfl (by simp) hx2s, List.getElem?_set_self (List.getElem?_eq_some_iff.1 b104).1, fun j hj => List.getElem?_set_ne (fun e => hj e.symm), by simp⟩
    have w5' := w5
    have hN : H2.length = (H2 : Heap).length := rfl
    refine wa_dw ?_
    refine ⟨_, by
      have z1 : slcv (H2 ++ [Blk.cells [] .ex]) 3 a (some (.int .i64 (k : Int))) none = some y1 := hslx _ _ _ _ p1
      have z2 : slcv H3 3 a none (some (.int .i64 (k : Int))) = some y2 := by rw [hG3]; exact hslx _ _ _ _ q1
      have z3 : rd (H2 ++ [Blk.cells [] .ex]) k3 3 = some a := r332 _
      have z4 : rd H3 k3 3 = some a := by rw [hG3]; exact r332 _
      simp -implicitDefEqProofs [dinsL, dins, newOf, fillc, t3, z1, z2, z3, z4, u1, v1, len_cells (Rw.len v2.al), w5']
      rfl, ?_, ?_⟩
    · cases hb : a.blk? with
      | none => simp [Chk.ok, blk_ptr, blk_sl, hb]; omega
      | some j => have := hablt j hb; simp [Chk.ok, blk_ptr, blk_sl, hb]; omega
    refine wa_rg [(2, .int .i64 c), (3, .ptr k3 0), (7, .int .i64 (sumV n.arcs)), (8, .bool (sumOk n.arcs)), (10, .ptr k10 0)] (by simp [Rg, t2, t3, t7, t8]) ?_
    rintro τ1 ⟨t2, t3, t7, t8, t10, -⟩
    dsimp only at t2 t3 t7 t8 t10
    have hx5 : AL H5 x2 (n.arcs.drop k ++ n.arcs.take k) := v2.al.frame fun j hj => f5 j (by have := v2.ge j hj; omega)
    obtain ⟨f7, g7⟩ := pc_sum (n := { n with arcs := n.arcs.drop k ++ n.arcs.take k }) hx5 (by simp; omega)
    have g7e := g7 []
    rw [List.append_nil, List.nil_append] at g7e
    simp only [sumV_rot, sumOk_rot] at g7e
    unfold NV at g7e
    dsimp only at g7e
    have r5 : rdn H5 k10 0 4 = some [.int .i64 n.N, .int .i64 n.S, .int .i64 n.T, x2] := by simp [rdn, c5, nbox]
    refine wa_sr ⟨_, by simp -implicitDefEqProofs [t10, r5, g7e]; rfl, ?_⟩
    generalize sumOk n.arcs = ok at *
    refine wa_sr ⟨_, by simp -implicitDefEqProofs [t7, t8]; rfl, ?_⟩
    refine wa_cond (t := false) (by simp) (fun h => by cases h) (fun _ => wa_skip ?_)
    refine ⟨?_, by simp [Rg, t2, t3, t7, t8]⟩
    obtain ⟨G0, hG0⟩ := eH
    have hp5 : Hp H1 H5 [] := ⟨by rw [l5]; have := hp4.le; omega, fun j hj => by rw [f5 j (by omega), hp4.old j (by omega), hG0, List.getElem?_append_left hj], fun p hp => by simp at hp, List.nodup_nil⟩
    obtain ⟨G5, hG5⟩ := hp5.eq
    exact ⟨G5 ++ f7 [], by rw [hG5]; simp⟩
  · rintro ⟨τ1, H2⟩ ⟨⟨G, hG⟩, u2, u3, u7, u8, -⟩
    dsimp only at hG u2 u3 u7 u8
    subst hG
    clear t1 t2 t3 t7 t8 t34 τ
    have hA2 := hA1.app G
    have r3z : ∀ G', rdn (H1 ++ G ++ G') k3 0 4 = some [.int .i64 n.N, .int .i64 n.S, .int .i64 n.T, a] := fun G' => by rw [List.append_assoc]; exact r3' _
    have r33z : ∀ G', rd (H1 ++ G ++ G') k3 3 = some a := fun G' => by rw [List.append_assoc]; exact r33' _
    have hk32 : k3 < (H1 ++ G).length := by simp; omega
    generalize H1 ++ G = H2 at *
    -- a copy, with one arc more
    obtain ⟨x, H3, e1, ⟨G3, hG3⟩, e3⟩ := copy_ok hA2 hsl (by omega)
    unfold NV at e1
    have hxs : x.scalar = true := len_scalar (Rw.len e3.al)
    have r3e := r3z []
    rw [List.append_nil] at r3e
    refine wa_sr ⟨_, by simp -implicitDefEqProofs [u3, r3e, e1, hxs]; rfl, ?_⟩
    change WP E _ ⟨_, H3 ++ [nbox n x]⟩ _
    have hm0 : MB H2.length (H3 ++ [nbox n x]) H3.length n x := ⟨by rw [hG3]; simp, by simp, (e3.app _), fun k hk => by have := Rw.lt e3.al k hk; omega⟩
    have hp0 : Hp H2 (H3 ++ [nbox n x]) [] := by rw [hG3, List.append_assoc]; exact Hp.app _ _
    generalize H3 ++ [nbox n x] = H4 at *
    generalize H3.length = k13 at *
    obtain ⟨x5, H5, p1, p2, p3, p4, p5⟩ := push3 hm0.own hp0.le ⟨0, 0, c⟩ (by omega)
    have hx5s : x5.scalar = true := len_scalar (Rw.len p2.al)
    have hmlt := hm0.lt
    have b5 : H5[k13]? = some (nbox n x) := by rw [p4 k13 hmlt (fun e => hm0.ne k13 e rfl)]; exact hm0.box
    obtain ⟨H6, w6, c6, f6, l6⟩ : ∃ X, wr H5 k13 3 [x5] = some X ∧ X[k13]? = some (nbox { n with arcs := n.arcs ++ [⟨0, 0, c⟩] } x5) ∧ (∀ j, j ≠ k13 → X[j]? = H5[j]?) ∧ X.length = H5.length :=
      ⟨_, wr1 (o := 3) (v := x5) (cs := [.int .i64 n.N, .int .i64 n.S, .int .i64 n.T, x]) b5 rfl (by simp) hx5s, List.getElem?_set_self (List.getElem?_eq_some_iff.1 b5).1, fun j hj => List.getElem?_set_ne (fun e => hj e.symm), by simp⟩
    have q3 := hm0.rd3 []
    rw [List.append_nil] at q3
    have p1' : appendv (H4 ++ [.cells [.int .i64 0, .int .i64 0, .int .i64 c] .ex]) 3 24 x (.sl H4.length 0 1 1) = some (x5, H5) := p1
    refine wa_sr ⟨_, by simp -implicitDefEqProofs [u2, q3, fillc, p1', hx5s, len_cells (Rw.len p2.al), w6]; rfl, ?_⟩
    have hx6 : AL H6 x5 (n.arcs ++ [⟨0, 0, c⟩]) := p2.al.frame fun j hj => f6 j (by have := p5 j hj; omega)
    have hp6 : Hp H2 H6 [] := ⟨by rw [l6]; have := hp0.le; omega, fun j hj => by
      have h1 := hp0.le
      have h2 := hm0.ge
      rw [f6 j (by omega), p4 j (by omega) (fun e => by have := hm0.own.ge j e; omega)]
      exact hp0.old j hj, fun p hp => by simp at hp, List.nodup_nil⟩
    obtain ⟨f7, g7⟩ := pc_sum (n := { n with arcs := n.arcs ++ [⟨0, 0, c⟩] }) hx6 (by simp; omega)
    have g7e := g7 []
    rw [List.append_nil, List.nil_append] at g7e
    unfold NV at g7e
    dsimp only at g7e
    have r6 : rdn H6 k13 0 4 = some [.int .i64 n.N, .int .i64 n.S, .int .i64 n.T, x5] := by simp [rdn, c6, nbox]
    refine wa_sr ⟨_, by simp -implicitDefEqProofs [r6, g7e]; rfl, ?_⟩
    have hok := sumOk_snoc n.arcs c
    have hv := sumV_snoc n.arcs c
    obtain ⟨G6, hG6⟩ := hp6.eq
    have r33w : ∀ G', rd (H6 ++ G') k3 3 = some a := fun G' => by rw [hG6, List.append_assoc]; exact r33z _
    have hA6 : AL H6 a n.arcs := by rw [hG6]; exact hA2.app _
    have hA7 := hA6.app (f7 [])
    have r33w' := r33w (f7 [])
    refine wa_rg [(2, .int .i64 c), (3, .ptr k3 0), (7, .int .i64 (sumV n.arcs)), (8, .bool (sumOk n.arcs)), (14, .int .i64 (sumV (n.arcs ++ [⟨0, 0, c⟩]))), (15, .bool (sumOk (n.arcs ++ [⟨0, 0, c⟩])))] (by simp [Rg, u2, u3, u7, u8]) ?_
    generalize H6 ++ f7 [] = H7 at *
    rintro τ ⟨v2, v3, v7, v8, v14, v15, -⟩
    dsimp only at v2 v3 v7 v8 v14 v15
    have hwb : IntKind.i64.wrap (4611686018427387904 - sumV n.arcs) = 4611686018427387904 - sumV n.arcs := w64 (by omega) (by omega)
    unfold big at hok
    refine wa_cut (fun s => s.H = H7 ∧ Rg s.τ [(3, .ptr k3 0), (7, .int .i64 (sumV n.arcs)), (8, .bool (sumOk n.arcs)), (111, .bool false)]) ?_ ?_
    · cases h8 : sumOk n.arcs
      · rw [h8] at hok v8
        simp only [Bool.false_and] at hok
        rw [hok] at v15 hv
        simp only [Bool.false_eq_true, if_false] at hv
        rw [hv] at v14
        refine wa_regs ⟨_, by simp -implicitDefEqProofs [v2, v7, v8, v14, v15]; rfl, rfl, by simp [Rg, v3, v7, v8]⟩
      · rw [h8] at hok v8
        simp only [Bool.true_and] at hok
        by_cases c0 : 0 ≤ c
        · by_cases c1 : c ≤ 4611686018427387904 - sumV n.arcs
          · simp only [c0, c1, decide_true, Bool.and_true] at hok
            rw [hok] at v15 hv
            simp only [if_true] at hv
            rw [hv] at v14
            have hws : IntKind.i64.wrap (sumV n.arcs + c) = sumV n.arcs + c := w64 (by omega) (by omega)
            refine wa_regs ⟨_, by simp -implicitDefEqProofs [v2, v7, v8, v14, v15, c0, c1, hwb, hws]; rfl, rfl, by simp [Rg, v3, v7, v8]⟩
          · simp only [c0, c1, decide_true, decide_false, Bool.and_false] at hok
            rw [hok] at v15 hv
            simp only [Bool.false_eq_true, if_false] at hv
            rw [hv] at v14
            refine wa_regs ⟨_, by simp -implicitDefEqProofs [v2, v7, v8, v14, v15, c0, c1, hwb]; rfl, rfl, by simp [Rg, v3, v7, v8]⟩
        · simp only [c0, decide_false, Bool.false_and] at hok
          rw [hok] at v15 hv
          simp only [Bool.false_eq_true, if_false] at hv
          rw [hv] at v14
          refine wa_regs ⟨_, by simp -implicitDefEqProofs [v2, v7, v8, v14, v15, c0]; rfl, rfl, by simp [Rg, v3, v7, v8]⟩
    · clear v2 v3 v7 v8 v14 v15 τ
      rintro ⟨τ, H'⟩ ⟨hH', v3, v7, v8, v111, -⟩
      dsimp only at hH' v3 v7 v8 v111
      subst H'
      refine wa_if (t := false) (by simp [v111]) (fun h => by cases h) (fun _ => ?_)
      refine wa_sr ⟨_, by simp -implicitDefEqProofs [v3, r33w', hl]; rfl, ?_⟩
      refine wa_cut (fun _ => True) ?_ ?_
      · refine wa_for (n := n.arcs.length) (fun i (_ : Unit) => [(7, .int .i64 (sumV n.arcs)), (8, .bool (sumOk n.arcs)), (113, a)]) (fun i _ H'' => ∃ G, H'' = H7 ++ G) ()
          (by decide) (fun i hi => w64 (by omega) (by omega)) (by simp) (by simp) (by simp [Rg, v7, v8]) ⟨[], by simp⟩ (by simp) ?_ (fun _ _ _ _ _ => trivial)
        rintro i _ τ H8 hi t115 t114 ⟨x7, x8, x113, -⟩ ⟨G8, rfl⟩
        dsimp only [ev] at *
        obtain ⟨k, o, cc, hae, _, hrd, _⟩ := hA7.at hi
        have hmem := List.getElem_mem hi
        generalize n.arcs[i] = ar at *
        unfold Arc.cells at hrd
        refine wa_sr ⟨_, by simp -implicitDefEqProofs [x113, t115, hae, hi, hrd]; rfl, ?_⟩
        cases h8 : sumOk n.arcs
        · rw [h8] at x8
          refine wa_sr ⟨_, by simp -implicitDefEqProofs [x8]; rfl, ?_⟩
          refine wa_cond (t := false) (by simp) (fun h => by cases h) (fun _ => wa_skip ?_)
          exact ⟨by simp [t115], by simp [t114], (), by simp [Rg, x7, x8, x113, hae, h8], _, by simp; rfl⟩
        · rw [h8] at x8
          have hall := (sumOk_iff n.arcs).1 h8
          have hc0 := hall.1 ar hmem
          have hc1 : ar.cap ≤ sumV n.arcs := by rw [sumV_eq, if_pos h8]; exact cap_le n.arcs hall.1 ar hmem
          have n0' : ¬ ar.cap < 0 := by omega
          have n1' : ¬ sumV n.arcs < ar.cap := by omega
          refine wa_sr ⟨_, by simp -implicitDefEqProofs [x7, x8, n0', n1']; rfl, ?_⟩
          refine wa_cond (t := false) (by simp [n1']) (fun h => by cases h) (fun _ => wa_skip ?_)
          exact ⟨by simp [t115], by simp [t114], (), by simp [Rg, x7, x8, x113, hae, h8], _, by simp; rfl⟩
      · rintro ⟨τ, H8⟩ -
        refine wa_sr ⟨_, by simp [call_yes (k := 26) rfl]; rfl, ?_⟩
        exact wa_ret ⟨by simp, _, by simp; rfl, rfl⟩
end Go.Proofs.Ytpojdgeginigjaa
/- NetCopies: the walk. -/
set_option linter.unusedSimpArgs false
set_option linter.unusedVariables false
namespace Go.Proofs.Ytpojdgeginigjaa
open Go Go.Ar
set_option maxRecDepth 100000

theorem pcopy_ok {n : Net} {a : V} {H : Heap} {hide : List Nat} (h : AL H a n.arcs) (hx : Sl a) (hs : n.arcs.length ≤ 2 ^ 20) (hk : ∀ k, a.blk? = some k → k ∉ hide) : ∃ x G, pcall (callL E) hide (.f 27) [NV n a] H = some (NV n x, H ++ G) ∧ Own3 (H ++ G) H.length x n.arcs := by
  obtain ⟨x, H', h1, ⟨G, rfl⟩, h3⟩ := copy_ok (h.prot (hide := hide) hk) hx hs
  refine ⟨x, G, pcall_run h1, ?_⟩
  have := h3.ge
  rw [length_prot] at h3 this
  refine h3.frame fun k hk => ?_
  have := this k hk
  rw [List.getElem?_append_right (by omega), List.getElem?_append_right (by rw [length_prot]; omega), length_prot]

theorem wrap_ne {v : Int} (h : i64b v) : IntKind.i64.wrap (v + 1) ≠ v := by
  unfold i64b at h
  simp [IntKind.wrap, IntKind.bits, IntKind.signed]
  omega
theorem sameB_comm (m n : Net) : sameB m n = sameB n m := by
  rw [Bool.eq_iff_iff]
  simp only [sameB, decide_eq_true_eq]
  constructor <;> rintro ⟨a, b, c, d⟩ <;> exact ⟨a.symm, b.symm, c.symm, d.symm⟩

theorem MB.frame {B k3 : Nat} {H H' : Heap} {m : Net} {x : V} (h : MB B H k3 m x) (h1 : H'[k3]? = H[k3]?) (h2 : ∀ k, x.blk? = some k → H'[k]? = H[k]?) : MB B H' k3 m x := ⟨h.ge, h1.trans h.box, h.own.frame h2, h.ne⟩
theorem rd_of_rdn {H : Heap} {k o n j : Nat} {cs : List V} (h : rdn H k o n = some cs) (hj : j < n) : rd H k (o + j) = cs[j]? := by
  simp only [rdn] at h
  split at h
  · rename_i ds m hb
    split at h
    · cases h
      simp only [rd, hb]
      rw [List.getElem?_take, if_pos hj, List.getElem?_drop]
    · cases h
  · cases h
theorem same_arc {n : Net} {k : Nat} (hk : k < n.arcs.length) (a' : Ar.Arc) (hne : a' ≠ n.arcs[k]) : sameB { n with arcs := n.arcs.set k a' } n = false := sameB_false fun ⟨_, _, _, h⟩ => hne (by
  have := congrArg (fun l : List Ar.Arc => l[k]?) h
  simp only [List.getElem?_set_self hk, List.getElem?_eq_getElem hk] at this
  exact Option.some.inj this)

set_option maxHeartbeats 4000000 in
theorem copies_law {H : Heap} {n : Net} {a : V} {at' w : Int} (hi : NetIn H n a) (hat : 0 ≤ at' ∧ at' ≤ 255) (hw : 0 ≤ w ∧ w ≤ 255) :
    ∃ v H', callL E (.f 7) [NV n a, .int .u8 at', .int .u8 w] H = some (v, H') ∧ v = .bool true := by
  refine call_E rfl nc7 rfl ?_
  unfold gc7
  have h := hi.al
  have hl : lenOf a = some n.arcs.length := Rw.len h
  unfold NV
  refine wa_sr ⟨_, by simp [len_cells hl]; rfl, ?_⟩
  refine wa_cut (fun s => s.H = H ++ [nbox n a] ∧ Rg s.τ [(1, .int .u8 at'), (2, .int .u8 w), (3, .ptr H.length 0), (19, .bool (decide (n.arcs.length = 0) || decide (200 < n.arcs.length)))]) ?_ ?_
  · by_cases h1 : n.arcs.length = 0
    · refine wa_regs ⟨_, by simp -implicitDefEqProofs [hl, h1]; rfl, rfl, ?_⟩
      simp [Rg, h1]
    · have h1' : ((n.arcs.length : Int) == 0) = false := by simpa using h1
      refine wa_regs ⟨_, by simp -implicitDefEqProofs [hl, h1']; rfl, rfl, ?_⟩
      simp [Rg, h1]; omega
  rintro ⟨τ, H2⟩ ⟨hH2, t1, t2, t3, t19, -⟩
  dsimp only at hH2 t1 t2 t3 t19
  subst hH2
  by_cases hbig : n.arcs.length = 0 ∨ 200 < n.arcs.length
  · refine wa_if (t := true) (by simp only [ev]; rw [t19]; simpa using hbig) (fun _ => ?_) (fun h => by cases h)
    refine wa_sr ⟨_, by simp [call_yes (k := 26) rfl]; rfl, ?_⟩
    exact wa_rt ⟨by simp, _, by simp; rfl, rfl⟩
  refine wa_if (t := false) (by simp only [ev]; rw [t19]; simpa using hbig) (fun h => by cases h) (fun _ => ?_)
  have hA := h.app [nbox n a]
  have r3 : ∀ G, rdn (H ++ [nbox n a] ++ G) H.length 0 4 = some [.int .i64 n.N, .int .i64 n.S, .int .i64 n.T, a] := fun G => by simp [nbox]
  have r33 : ∀ G, rd (H ++ [nbox n a] ++ G) H.length 3 = some a := fun G => by simp [nbox]
  have hk3 : H.length < (H ++ [nbox n a]).length := by simp
  have hab : ∀ k, a.blk? = some k → k < (H ++ [nbox n a]).length := Rw.lt hA
  generalize H ++ [nbox n a] = HA at *
  generalize H.length = k3 at *
  -- two copies
  have hA0 := hA.app (List.replicate 2 .dead)
  obtain ⟨x, G1, e1, e2⟩ := pcopy_ok (hide := [HA.length, HA.length + 1]) hA0 hi.sl (by omega) (fun k hk => by have := hab k hk; simp; omega)
  have hA1 := hA0.app G1
  obtain ⟨y, G2, f1, f2⟩ := pcopy_ok (hide := [HA.length, HA.length + 1]) hA1 hi.sl (by omega) (fun k hk => by have := hab k hk; simp; omega)
  have hxs : x.scalar = true := len_scalar (Rw.len e2.al)
  have hys : y.scalar = true := len_scalar (Rw.len f2.al)
  have hxy : ∀ k, x.blk? = some k → HA.length + 2 ≤ k ∧ y.blk? ≠ some k := fun k hk => by
    have h1 := e2.ge k hk
    have h2 := Rw.lt e2.al k hk
    refine ⟨by simpa using h1, fun h3 => ?_⟩
    have := f2.ge k h3
    omega
  have hyk : ∀ k, y.blk? = some k → HA.length + 2 ≤ k := fun k hk => by
    have h1 := f2.ge k hk
    simp at h1; omega
  have hHA0 : HA.length < (HA ++ List.replicate 2 Blk.dead).length := by simp
  have hd0 : (HA ++ List.replicate 2 Blk.dead ++ G1 ++ G2)[HA.length]? = some .dead := by simp
  have hd1 : (HA ++ List.replicate 2 Blk.dead ++ G1 ++ G2)[HA.length + 1]? = some .dead := by simp [List.replicate_succ]
  have hpre : ∀ k, k < HA.length → (HA ++ List.replicate 2 Blk.dead ++ G1 ++ G2)[k]? = HA[k]? := fun k hk => by simp [List.getElem?_append_left, hk]
  have hlen2 : HA.length + 2 ≤ (HA ++ List.replicate 2 Blk.dead ++ G1 ++ G2).length := by simp only [List.length_append, List.length_replicate]; omega
  have hOx : Own3 (HA ++ List.replicate 2 Blk.dead ++ G1 ++ G2) (HA.length + 2) x n.arcs := by
    have := e2.app G2
    simpa using this
  have hOy : Own3 (HA ++ List.replicate 2 Blk.dead ++ G1 ++ G2) (HA.length + 2) y n.arcs := by
    rcases f2 with ⟨h2, h3⟩ | ⟨k, m, h2, h3, h4, h5⟩
    · exact .inl ⟨h2, h3⟩
    · exact .inr ⟨k, m, h2, by simp at h3; omega, h4, h5⟩
  obtain ⟨H1, hH1⟩ : ∃ X, X = HA ++ List.replicate 2 Blk.dead ++ G1 ++ G2 := ⟨_, rfl⟩
  rw [← hH1] at hd0 hd1 hpre hlen2 hOx hOy f1
  have e1' : pcall (callL E) [HA.length, HA.length + 1] (.f 27) [V.agg [.int .i64 n.N, .int .i64 n.S, .int .i64 n.T, a]] (HA ++ [.dead, .dead]) = some (V.agg [.int .i64 n.N, .int .i64 n.S, .int .i64 n.T, x], HA ++ [.dead, .dead] ++ G1) := e1
  have f1' : pcall (callL E) [HA.length, HA.length + 1] (.f 27) [V.agg [.int .i64 n.N, .int .i64 n.S, .int .i64 n.T, a]] (HA ++ [.dead, .dead] ++ G1) = some (V.agg [.int .i64 n.N, .int .i64 n.S, .int .i64 n.T, y], H1) := f1
  obtain ⟨Hb, hHb⟩ : ∃ X, X = HA ++ [Blk.dead, .dead] ++ G1 := ⟨_, rfl⟩
  rw [← hHb] at e1' f1'
  have r3b : rdn Hb k3 0 4 = some [.int .i64 n.N, .int .i64 n.S, .int .i64 n.T, a] := by rw [hHb, List.append_assoc]; exact r3 _
  have r3a : rdn (HA ++ [.dead, .dead]) k3 0 4 = some [.int .i64 n.N, .int .i64 n.S, .int .i64 n.T, a] := r3 _
  -- the two boxes
  let Z : Blk := .cells [.int .i64 0, .int .i64 0, .int .i64 0, .nils] .ex
  have hs1 : (H1.set HA.length Z)[HA.length + 1]? = some .dead := by rw [List.getElem?_set_ne (by omega)]; exact hd1
  obtain ⟨H2, hH2⟩ : ∃ X, X = (H1.set HA.length Z).set (HA.length + 1) Z := ⟨_, rfl⟩
  have hlH2 : H2.length = H1.length := by rw [hH2]; simp
  have k20 : H2[HA.length]? = some Z := by rw [hH2, List.getElem?_set_ne (by omega), List.getElem?_set_self (by omega)]
  have k21 : H2[HA.length + 1]? = some Z := by rw [hH2, List.getElem?_set_self (by simp; omega)]
  have k2o : ∀ k, k ≠ HA.length → k ≠ HA.length + 1 → H2[k]? = H1[k]? := fun k h1 h2 => by rw [hH2, List.getElem?_set_ne (fun e => h2 e.symm), List.getElem?_set_ne (fun e => h1 e.symm)]
  obtain ⟨H3, w3, c3, o3, l3⟩ : ∃ X, wr H2 HA.length 0 [.int .i64 n.N, .int .i64 n.S, .int .i64 n.T, x] = some X ∧ X[HA.length]? = some (nbox n x) ∧ (∀ k, k ≠ HA.length → X[k]? = H2[k]?) ∧ X.length = H2.length :=
    ⟨_, wrAll (vs := [.int .i64 n.N, .int .i64 n.S, .int .i64 n.T, x]) k20 rfl rfl (by simp only [List.all_cons, List.all_nil, hxs]; rfl), List.getElem?_set_self (by omega), fun k hk => List.getElem?_set_ne (fun e => hk e.symm), by simp⟩
  have k31 : H3[HA.length + 1]? = some Z := by rw [o3 _ (by omega)]; exact k21
  obtain ⟨H4, w4, c4, o4, l4⟩ : ∃ X, wr H3 (HA.length + 1) 0 [.int .i64 n.N, .int .i64 n.S, .int .i64 n.T, y] = some X ∧ X[HA.length + 1]? = some (nbox n y) ∧ (∀ k, k ≠ HA.length + 1 → X[k]? = H3[k]?) ∧ X.length = H3.length :=
    ⟨_, wrAll (vs := [.int .i64 n.N, .int .i64 n.S, .int .i64 n.T, y]) k31 rfl rfl (by simp only [List.all_cons, List.all_nil, hys]; rfl), List.getElem?_set_self (by omega), fun k hk => List.getElem?_set_ne (fun e => hk e.symm), by simp⟩
  have hfr : ∀ k, k ≠ HA.length → k ≠ HA.length + 1 → H4[k]? = H1[k]? := fun k h1 h2 => by rw [o4 k h2, o3 k h1, k2o k h1 h2]
  have mx : MB 0 H4 HA.length n x := ⟨Nat.zero_le _, by rw [o4 _ (by omega)]; exact c3, by
    rcases hOx.frame (H' := H4) (fun k hk => hfr k (by have := (hxy k hk).1; omega) (by have := (hxy k hk).1; omega)) with ⟨h2, h3⟩ | ⟨k, m, h2, h3, h4, h5⟩
    · exact .inl ⟨h2, h3⟩
    · exact .inr ⟨k, m, h2, Nat.zero_le _, h4, h5⟩, fun k hk => by have := (hxy k hk).1; omega⟩
  have my : MB 0 H4 (HA.length + 1) n y := ⟨Nat.zero_le _, c4, by
    rcases hOy.frame (H' := H4) (fun k hk => hfr k (by have := hyk k hk; omega) (by have := hyk k hk; omega)) with ⟨h2, h3⟩ | ⟨k, m, h2, h3, h4, h5⟩
    · exact .inl ⟨h2, h3⟩
    · exact .inr ⟨k, m, h2, Nat.zero_le _, h4, h5⟩, fun k hk => by have := hyk k hk; omega⟩
  have hbase : ∀ k, k < HA.length → H4[k]? = HA[k]? := fun k hk => by rw [hfr k (by omega) (by omega), hpre k hk]
  have hH2' : (H1.set HA.length (Blk.cells [.int .i64 0, .int .i64 0, .int .i64 0, .nils] .ex)).set (HA.length + 1) (Blk.cells [.int .i64 0, .int .i64 0, .int .i64 0, .nils] .ex) = H2 := hH2.symm
  refine wa_dw ?_
  refine ⟨_, by
    simp -implicitDefEqProofs [dinsL, dins, newOf, t3, r3a, e1', r3b, f1', hd0, hd1, hH2', w3, w4]
    rfl, ?_, ?_⟩
  · simp [Chk.ok, blk_ptr, t3]; omega
  refine wa_rg [(1, .int .u8 at'), (2, .int .u8 w), (3, .ptr k3 0), (7, .ptr HA.length 0), (8, .ptr (HA.length + 1) 0)] (by simp [Rg, t1, t2, t3]) ?_
  clear hH2' w3 w4 hd0 hd1 e1' f1' k20 k21 k2o k31 c3 o3 c4 o4 hfr hs1 hOx hOy e1 f1 e2 f2 hA0 hA1 r3a r3b hH2 hH1 hHb t1 t2 t3 t19 τ
  rintro τ ⟨t1, t2, t3, t7, t8, -⟩
  dsimp only at t1 t2 t3 t7 t8
  have hA4 : AL H4 a n.arcs := hA.frame fun k hk => hbase k (hab k hk)
  have eb : ∃ G, H4 = HA ++ G := (⟨by omega, hbase, fun p hp => by simp at hp, List.nodup_nil⟩ : Hp HA H4 []).eq
  have r3' : ∀ H', (∀ k, k < HA.length → H'[k]? = HA[k]?) → rdn H' k3 0 4 = some [.int .i64 n.N, .int .i64 n.S, .int .i64 n.T, a] ∧ rd H' k3 3 = some a := fun H' hH' => by
    have h1 := r3 []
    have h2 := r33 []
    rw [List.append_nil] at h1 h2
    simp only [rdn, rd] at h1 h2 ⊢
    rw [hH' k3 hk3]
    exact ⟨h1, h2⟩
  obtain ⟨r34, r334⟩ := r3' H4 hbase
  have hwt : IntKind.i64.wrap at' = at' := w64 (by omega) (by omega)
  have hpos : 0 < n.arcs.length := by omega
  have hne : n.arcs ≠ [] := by intro e; rw [e] at hpos; simp at hpos
  obtain ⟨k, hk, hkl⟩ : ∃ k : Nat, at'.tmod n.arcs.length = k ∧ k < n.arcs.length := by
    have h1 := Int.tmod_lt_of_pos at' (by omega : (0 : Int) < n.arcs.length)
    have h2 : 0 ≤ at'.tmod n.arcs.length := Int.tmod_nonneg _ hat.1
    exact ⟨(at'.tmod n.arcs.length).toNat, by omega, by omega⟩
  have hxl : lenOf x = some n.arcs.length := Rw.len mx.own.al
  have qx3 := mx.rd3 []
  rw [List.append_nil] at qx3
  refine wa_sr ⟨_, by simp -implicitDefEqProofs [t1, t3, r334, hl, hwt, hne, hk]; rfl, ?_⟩
  refine wa_sr ⟨_, by simp -implicitDefEqProofs [t3, t7, r334, qx3, hl, hxl]; rfl, ?_⟩
  refine wa_if (t := false) (by simp) (fun h => by cases h) (fun _ => ?_)
  refine wa_sr ⟨_, by simp [t2]; rfl, ?_⟩
  obtain ⟨u, hu, hu6⟩ : ∃ u : Nat, w.tmod 7 = u ∧ u ≤ 6 := by
    have h1 := Int.tmod_lt_of_pos w (by omega : (0 : Int) < 7)
    have h2 : 0 ≤ w.tmod 7 := Int.tmod_nonneg _ hw.1
    exact ⟨(w.tmod 7).toNat, by omega, by omega⟩
  refine wa_rg [(3, .ptr k3 0), (7, .ptr HA.length 0), (8, .ptr (HA.length + 1) 0), (9, .int .i64 k), (39, .int .u8 u)] (by simp [Rg, t3, t7, t8, hu]) ?_
  clear t1 t2 t3 t7 t8 τ
  rintro τ ⟨t3, t7, t8, t9, t39, -⟩
  dsimp only at t3 t7 t8 t9 t39
  -- one thing is another one
  refine wa_cut (fun s => ∃ (c : Net) (x' : V), sameB c n = false ∧ c.arcs.length ≤ 300 ∧ MB 0 s.H HA.length c x' ∧ MB 0 s.H (HA.length + 1) n y ∧ (∀ k, k < HA.length → s.H[k]? = HA[k]?) ∧ Rg s.τ [(3, .ptr k3 0), (7, .ptr HA.length 0), (8, .ptr (HA.length + 1) 0)]) ?_ ?_
  · refine wa_block ?_
    rcases (by omega : u = 0 ∨ u = 1 ∨ u = 2 ∨ u = 3 ∨ u = 4 ∨ u = 5 ∨ u = 6) with rfl | rfl | rfl | rfl | rfl | rfl | rfl
    · refine wa_sr ⟨_, by simp [t39]; rfl, ?_⟩
      refine wa_cond (t := true) (by simp) (fun _ => ?_) (fun h => by cases h)
      have q0 : rd H4 HA.length 0 = some (.int .i64 n.N) := by simp [rd, mx.box, nbox]
      obtain ⟨H5, w5, m5, o5⟩ : ∃ X, wr H4 HA.length 0 [.int .i64 (IntKind.i64.wrap (n.N + 1))] = some X ∧ MB 0 X HA.length { n with N := IntKind.i64.wrap (n.N + 1) } x ∧ ∀ k, k ≠ HA.length → X[k]? = H4[k]? :=
        ⟨_, wr1 (o := 0) (v := .int .i64 (IntKind.i64.wrap (n.N + 1))) (cs := [.int .i64 n.N, .int .i64 n.S, .int .i64 n.T, x]) mx.box rfl (by simp) rfl, mx.put (m' := { n with N := IntKind.i64.wrap (n.N + 1) }) rfl, fun k hk => List.getElem?_set_ne (fun e => hk e.symm)⟩
      refine wa_regs ⟨_, by simp -implicitDefEqProofs [t7, q0, w5]; rfl, ?_⟩
      exact ⟨{ n with N := IntKind.i64.wrap (n.N + 1) }, x, sameB_false fun h => wrap_ne hi.bN (by simpa using h.1), by simp only; omega, m5, my.frame (o5 _ (by omega)) (fun j hj => o5 j (by have := hyk j hj; omega)), fun j hj => by rw [o5 j (by omega)]; exact hbase j hj, by simp [Rg, t3, t7, t8]⟩
    · refine wa_sr ⟨_, by simp [t39]; rfl, ?_⟩
      refine wa_cond (t := false) (by simp) (fun h => by cases h) (fun _ => ?_)
      refine wa_sr ⟨_, by simp [t39]; rfl, ?_⟩
      refine wa_cond (t := true) (by simp) (fun _ => ?_) (fun h => by cases h)
      have q0 : rd H4 HA.length 1 = some (.int .i64 n.S) := by simp [rd, mx.box, nbox]
      obtain ⟨H5, w5, m5, o5⟩ : ∃ X, wr H4 HA.length 1 [.int .i64 (IntKind.i64.wrap (n.S + 1))] = some X ∧ MB 0 X HA.length { n with S := IntKind.i64.wrap (n.S + 1) } x ∧ ∀ k, k ≠ HA.length → X[k]? = H4[k]? :=
        ⟨_, wr1 (o := 1) (v := .int .i64 (IntKind.i64.wrap (n.S + 1))) (cs := [.int .i64 n.N, .int .i64 n.S, .int .i64 n.T, x]) mx.box rfl (by simp) rfl, mx.put (m' := { n with S := IntKind.i64.wrap (n.S + 1) }) rfl, fun k hk => List.getElem?_set_ne (fun e => hk e.symm)⟩
      refine wa_regs ⟨_, by simp -implicitDefEqProofs [t7, q0, w5]; rfl, ?_⟩
      exact ⟨{ n with S := IntKind.i64.wrap (n.S + 1) }, x, sameB_false fun h => wrap_ne hi.bS (by simpa using h.2.1), by simp only; omega, m5, my.frame (o5 _ (by omega)) (fun j hj => o5 j (by have := hyk j hj; omega)), fun j hj => by rw [o5 j (by omega)]; exact hbase j hj, by simp [Rg, t3, t7, t8]⟩
    · refine wa_sr ⟨_, by simp [t39]; rfl, ?_⟩
      refine wa_cond (t := false) (by simp) (fun h => by cases h) (fun _ => ?_)
      refine wa_sr ⟨_, by simp [t39]; rfl, ?_⟩
      refine wa_cond (t := false) (by simp) (fun h => by cases h) (fun _ => ?_)
      refine wa_sr ⟨_, by simp [t39]; rfl, ?_⟩
      refine wa_cond (t := true) (by simp) (fun _ => ?_) (fun h => by cases h)
      have q0 : rd H4 HA.length 2 = some (.int .i64 n.T) := by simp [rd, mx.box, nbox]
      obtain ⟨H5, w5, m5, o5⟩ : ∃ X, wr H4 HA.length 2 [.int .i64 (IntKind.i64.wrap (n.T + 1))] = some X ∧ MB 0 X HA.length { n with T := IntKind.i64.wrap (n.T + 1) } x ∧ ∀ k, k ≠ HA.length → X[k]? = H4[k]? :=
        ⟨_, wr1 (o := 2) (v := .int .i64 (IntKind.i64.wrap (n.T + 1))) (cs := [.int .i64 n.N, .int .i64 n.S, .int .i64 n.T, x]) mx.box rfl (by simp) rfl, mx.put (m' := { n with T := IntKind.i64.wrap (n.T + 1) }) rfl, fun k hk => List.getElem?_set_ne (fun e => hk e.symm)⟩
      refine wa_regs ⟨_, by simp -implicitDefEqProofs [t7, q0, w5]; rfl, ?_⟩
      exact ⟨{ n with T := IntKind.i64.wrap (n.T + 1) }, x, sameB_false fun h => wrap_ne hi.bT (by simpa using h.2.2.1), by simp only; omega, m5, my.frame (o5 _ (by omega)) (fun j hj => o5 j (by have := hyk j hj; omega)), fun j hj => by rw [o5 j (by omega)]; exact hbase j hj, by simp [Rg, t3, t7, t8]⟩
    · refine wa_sr ⟨_, by simp [t39]; rfl, ?_⟩
      refine wa_cond (t := false) (by simp) (fun h => by cases h) (fun _ => ?_)
      refine wa_sr ⟨_, by simp [t39]; rfl, ?_⟩
      refine wa_cond (t := false) (by simp) (fun h => by cases h) (fun _ => ?_)
      refine wa_sr ⟨_, by simp [t39]; rfl, ?_⟩
      refine wa_cond (t := false) (by simp) (fun h => by cases h) (fun _ => ?_)
      refine wa_sr ⟨_, by simp [t39]; rfl, ?_⟩
      refine wa_cond (t := true) (by simp) (fun _ => ?_) (fun h => by cases h)
      obtain ⟨km, hxe, _, _, hrd, hwr⟩ := mx.arc hkl
      have hrd0 := hrd []
      rw [List.append_nil] at hrd0
      have q0 := rd_of_rdn (j := 0) hrd0 (by omega)
      have hb := (hi.arc _ (List.getElem_mem hkl)).1
      generalize hae : n.arcs[k] = ar at *
      obtain ⟨H5, w5, l5, m5, o5⟩ := hwr 0 (.int .i64 (IntKind.i64.wrap (ar.src + 1))) ⟨IntKind.i64.wrap (ar.src + 1), ar.dst, ar.cap⟩ (by omega) rfl rfl
      simp only [Nat.add_zero, Arc.cells, List.getElem?_cons_zero, List.getElem?_cons_succ] at q0 w5
      refine wa_regs ⟨_, by simp -implicitDefEqProofs [t7, t9, qx3, hxe, hkl, q0, w5]; rfl, ?_⟩
      have hkm := hxy km (by rw [hxe]; rfl)
      refine ⟨_, x, same_arc hkl ⟨IntKind.i64.wrap (ar.src + 1), ar.dst, ar.cap⟩ (fun h => ?_), by simp; omega, m5, my.frame (o5 _ (by omega)) (fun j hj => o5 j (fun e => hkm.2 (by rw [← e]; exact hj))), fun j hj => by rw [o5 j (by omega)]; exact hbase j hj, by simp [Rg, t3, t7, t8]⟩
      rw [hae] at h
      exact wrap_ne hb (congrArg Ar.Arc.src h)
    · refine wa_sr ⟨_, by simp [t39]; rfl, ?_⟩
      refine wa_cond (t := false) (by simp) (fun h => by cases h) (fun _ => ?_)
      refine wa_sr ⟨_, by simp [t39]; rfl, ?_⟩
      refine wa_cond (t := false) (by simp) (fun h => by cases h) (fun _ => ?_)
      refine wa_sr ⟨_, by simp [t39]; rfl, ?_⟩
      refine wa_cond (t := false) (by simp) (fun h => by cases h) (fun _ => ?_)
      refine wa_sr ⟨_, by simp [t39]; rfl, ?_⟩
      refine wa_cond (t := false) (by simp) (fun h => by cases h) (fun _ => ?_)
      refine wa_sr ⟨_, by simp [t39]; rfl, ?_⟩
      refine wa_cond (t := true) (by simp) (fun _ => ?_) (fun h => by cases h)
      obtain ⟨km, hxe, _, _, hrd, hwr⟩ := mx.arc hkl
      have hrd0 := hrd []
      rw [List.append_nil] at hrd0
      have q0 := rd_of_rdn (j := 1) hrd0 (by omega)
      have hb := (hi.arc _ (List.getElem_mem hkl)).2.1
      generalize hae : n.arcs[k] = ar at *
      obtain ⟨H5, w5, l5, m5, o5⟩ := hwr 1 (.int .i64 (IntKind.i64.wrap (ar.dst + 1))) ⟨ar.src, IntKind.i64.wrap (ar.dst + 1), ar.cap⟩ (by omega) rfl rfl
      simp only [Nat.add_zero, Arc.cells, List.getElem?_cons_zero, List.getElem?_cons_succ] at q0 w5
      refine wa_regs ⟨_, by simp -implicitDefEqProofs [t7, t9, qx3, hxe, hkl, q0, w5]; rfl, ?_⟩
      have hkm := hxy km (by rw [hxe]; rfl)
      refine ⟨_, x, same_arc hkl ⟨ar.src, IntKind.i64.wrap (ar.dst + 1), ar.cap⟩ (fun h => ?_), by simp; omega, m5, my.frame (o5 _ (by omega)) (fun j hj => o5 j (fun e => hkm.2 (by rw [← e]; exact hj))), fun j hj => by rw [o5 j (by omega)]; exact hbase j hj, by simp [Rg, t3, t7, t8]⟩
      rw [hae] at h
      exact wrap_ne hb (congrArg Ar.Arc.dst h)
    · refine wa_sr ⟨_, by simp [t39]; rfl, ?_⟩
      refine wa_cond (t := false) (by simp) (fun h => by cases h) (fun _ => ?_)
      refine wa_sr ⟨_, by simp [t39]; rfl, ?_⟩
      refine wa_cond (t := false) (by simp) (fun h => by cases h) (fun _ => ?_)
      refine wa_sr ⟨_, by simp [t39]; rfl, ?_⟩
      refine wa_cond (t := false) (by simp) (fun h => by cases h) (fun _ => ?_)
      refine wa_sr ⟨_, by simp [t39]; rfl, ?_⟩
      refine wa_cond (t := false) (by simp) (fun h => by cases h) (fun _ => ?_)
      refine wa_sr ⟨_, by simp [t39]; rfl, ?_⟩
      refine wa_cond (t := false) (by simp) (fun h => by cases h) (fun _ => ?_)
      refine wa_sr ⟨_, by simp [t39]; rfl, ?_⟩
      refine wa_cond (t := true) (by simp) (fun _ => ?_) (fun h => by cases h)
      obtain ⟨km, hxe, _, _, hrd, hwr⟩ := mx.arc hkl
      have hrd0 := hrd []
      rw [List.append_nil] at hrd0
      have q0 := rd_of_rdn (j := 2) hrd0 (by omega)
      have hb := (hi.arc _ (List.getElem_mem hkl)).2.2
      generalize hae : n.arcs[k] = ar at *
      obtain ⟨H5, w5, l5, m5, o5⟩ := hwr 2 (.int .i64 (IntKind.i64.wrap (ar.cap + 1))) ⟨ar.src, ar.dst, IntKind.i64.wrap (ar.cap + 1)⟩ (by omega) rfl rfl
      simp only [Nat.add_zero, Arc.cells, List.getElem?_cons_zero, List.getElem?_cons_succ] at q0 w5
      refine wa_regs ⟨_, by simp -implicitDefEqProofs [t7, t9, qx3, hxe, hkl, q0, w5]; rfl, ?_⟩
      have hkm := hxy km (by rw [hxe]; rfl)
      refine ⟨_, x, same_arc hkl ⟨ar.src, ar.dst, IntKind.i64.wrap (ar.cap + 1)⟩ (fun h => ?_), by simp; omega, m5, my.frame (o5 _ (by omega)) (fun j hj => o5 j (fun e => hkm.2 (by rw [← e]; exact hj))), fun j hj => by rw [o5 j (by omega)]; exact hbase j hj, by simp [Rg, t3, t7, t8]⟩
      rw [hae] at h
      exact wrap_ne hb (congrArg Ar.Arc.cap h)
    · refine wa_sr ⟨_, by simp [t39]; rfl, ?_⟩
      refine wa_cond (t := false) (by simp) (fun h => by cases h) (fun _ => ?_)
      refine wa_sr ⟨_, by simp [t39]; rfl, ?_⟩
      refine wa_cond (t := false) (by simp) (fun h => by cases h) (fun _ => ?_)
      refine wa_sr ⟨_, by simp [t39]; rfl, ?_⟩
      refine wa_cond (t := false) (by simp) (fun h => by cases h) (fun _ => ?_)
      refine wa_sr ⟨_, by simp [t39]; rfl, ?_⟩
      refine wa_cond (t := false) (by simp) (fun h => by cases h) (fun _ => ?_)
      refine wa_sr ⟨_, by simp [t39]; rfl, ?_⟩
      refine wa_cond (t := false) (by simp) (fun h => by cases h) (fun _ => ?_)
      refine wa_sr ⟨_, by simp [t39]; rfl, ?_⟩
      refine wa_cond (t := false) (by simp) (fun h => by cases h) (fun _ => ?_)
      obtain ⟨x5, H5, p1, p2, p3, p4, p5⟩ := push3 mx.own (Nat.zero_le _) ⟨0, 0, 0⟩ (by omega)
      have hx5s : x5.scalar = true := len_scalar (Rw.len p2.al)
      have b5 : H5[HA.length]? = some (nbox n x) := by rw [p4 _ mx.lt (fun e => mx.ne _ e rfl)]; exact mx.box
      obtain ⟨H6, w6, c6, f6, l6⟩ : ∃ X, wr H5 HA.length 3 [x5] = some X ∧ X[HA.length]? = some (nbox { n with arcs := n.arcs ++ [⟨0, 0, 0⟩] } x5) ∧ (∀ j, j ≠ HA.length → X[j]? = H5[j]?) ∧ X.length = H5.length :=
        ⟨_, wr1 (o := 3) (v := x5) (cs := [.int .i64 n.N, .int .i64 n.S, .int .i64 n.T, x]) b5 rfl (by simp) hx5s, List.getElem?_set_self (List.getElem?_eq_some_iff.1 b5).1, fun j hj => List.getElem?_set_ne (fun e => hj e.symm), by simp⟩
      have p1' : appendv (H4 ++ [.cells [.int .i64 0, .int .i64 0, .int .i64 0] .ex]) 3 24 x (.sl H4.length 0 1 1) = some (x5, H5) := p1
      refine wa_regs ⟨_, by simp -implicitDefEqProofs [t7, qx3, fillc, p1', hx5s, len_cells (Rw.len p2.al), w6]; rfl, ?_⟩
      have hml := mx.lt
      have hmy := my.lt
      have hf : ∀ j, j < H4.length → j ≠ HA.length → x.blk? ≠ some j → H6[j]? = H4[j]? := fun j h1 h2 h3 => by rw [f6 j h2, p4 j h1 h3]
      refine ⟨{ n with arcs := n.arcs ++ [⟨0, 0, 0⟩] }, x5, sameB_false fun h => ?_, by simp; omega, ⟨Nat.zero_le _, c6, p2.frame (fun j hj => f6 j (by have := p5 j hj; omega)), fun j hj => by have := p5 j hj; omega⟩, my.frame (hf _ hmy (by omega) (fun e => by have := (hxy _ e).1; omega)) (fun j hj => hf j (Rw.lt my.own.al j hj) (by have := hyk j hj; omega) (fun e => (hxy j e).2 hj)), fun j hj => by rw [hf j (by omega) (by omega) (fun e => by have := (hxy j e).1; omega)]; exact hbase j hj, by simp [Rg, t3, t7, t8]⟩
      have := congrArg List.length h.2.2.2
      simp at this
  · rintro ⟨τ, H5⟩ ⟨c, x', hs, hcl, mc, md, hb5, u3, u7, u8, -⟩
    dsimp only at mc md hb5 u3 u7 u8
    obtain ⟨r35, _⟩ := r3' H5 hb5
    have hA5 : AL H5 a n.arcs := hA.frame fun k hk => hb5 k (hab k hk)
    obtain ⟨g1, p1⟩ := pc_same (m := c) (n := n) mc.own.al md.own.al (by omega)
    obtain ⟨g2, p2⟩ := pc_same (m := n) (n := c) md.own.al mc.own.al (by omega)
    obtain ⟨g3, p3⟩ := pc_same (m := n) (n := n) md.own.al hA5 (by omega)
    rw [hs] at p1
    rw [sameB_comm, hs] at p2
    rw [sameB_true ⟨rfl, rfl, rfl, rfl⟩] at p3
    have eb5 : ∃ G, H5 = HA ++ G := (⟨by have := mc.lt; omega, hb5, fun p hp => by simp at hp, List.nodup_nil⟩ : Hp HA H5 []).eq
    obtain ⟨G5, hG5⟩ := eb5
    have r35' : ∀ G, rdn (H5 ++ G) k3 0 4 = some [.int .i64 n.N, .int .i64 n.S, .int .i64 n.T, a] := fun G => by rw [hG5, List.append_assoc]; exact r3 _
    have cr := mc.rd
    have dr := md.rd
    have cre := cr []
    have dre := dr []
    have p1e := p1 []
    rw [List.append_nil] at cre dre p1e
    rw [List.nil_append] at p1e
    unfold NV at p1 p2 p3 p1e
    refine wa_sr ⟨_, by simp -implicitDefEqProofs [u3, u7, u8, cre, dre, cr, dr, r35', p1e, p2, p3, call_yes (k := 26) rfl]; rfl, ?_⟩
    exact wa_ret ⟨by simp, _, by simp; rfl, rfl⟩
end Go.Proofs.Ytpojdgeginigjaa
/- NetJoins: the plain law. -/
set_option linter.unusedSimpArgs false
set_option linter.unusedVariables false
namespace Go.Proofs.Ytpojdgeginigjaa
open Go Go.Ar
set_option maxRecDepth 100000

def ends (x y : Ar.Arc) : Bool := x.src == y.src && x.dst == y.dst
theorem ends_iff {x y : Ar.Arc} : ends x y = true ↔ x.src = y.src ∧ x.dst = y.dst := by simp [ends]
def plus (x a : Ar.Arc) : Ar.Arc := ⟨x.src, x.dst, x.cap + a.cap⟩
def z3 : Ar.Arc := ⟨0, 0, 0⟩
/-- One arc more is joined: what is joined, and part of which each arc is. -/
def jstep (st : List Ar.Arc × List Int) (a : Ar.Arc) : List Ar.Arc × List Int :=
  if a.src = a.dst then (st.1, st.2 ++ [-1])
  else match st.1.findIdx? (fun x => ends x a) with
    | some i => (st.1.set i (plus (st.1.getD i z3) a), st.2 ++ [(i : Int)])
    | none => (st.1 ++ [a], st.2 ++ [(st.1.length : Int)])
def joinL (l : List Ar.Arc) : List Ar.Arc × List Int := l.foldl jstep ([], [])
theorem joinL_snoc (l : List Ar.Arc) (a : Ar.Arc) : joinL (l ++ [a]) = jstep (joinL l) a := by simp [joinL]
def joinN (n : Net) : Net := { n with arcs := (joinL n.arcs).1 }

/-- All that is part of k, of the first. -/
def partS : List Ar.Arc → List Int → Int → Int
  | a :: l, k' :: r, k => (if k' = k then a.cap else 0) + partS l r k
  | _, _, _ => 0
theorem partS_snoc : ∀ (l : List Ar.Arc) (r : List Int) (a : Ar.Arc) (k' k : Int), l.length = r.length → partS (l ++ [a]) (r ++ [k']) k = partS l r k + if k' = k then a.cap else 0
  | [], [], a, k', k, _ => by simp [partS]
  | b :: l, j :: r, a, k', k, h => by
    have := partS_snoc l r a k' k (by simpa using h)
    simp only [List.cons_append, partS, this]; omega
  | [], _ :: _, _, _, _, h => by simp at h
  | _ :: _, [], _, _, _, h => by simp at h
def topOf (r : List Int) : Int := r.foldl max (-1)
theorem topOf_snoc (r : List Int) (k : Int) : topOf (r ++ [k]) = max (topOf r) k := by simp [topOf]

structure JI (l : List Ar.Arc) (out : List Ar.Arc) (r : List Int) : Prop where
  len : r.length = l.length
  nd : ∀ (i j : Nat) (hi : i < out.length) (hj : j < out.length), ends out[i] out[j] = true → i = j
  nl : ∀ x, x ∈ out → x.src ≠ x.dst
  src : ∀ x, x ∈ out → ∃ a, a ∈ l ∧ a.src = x.src ∧ a.dst = x.dst
  prt : ∀ (i : Nat) (hi : i < l.length), (r.getD i 0 = -1 ∧ l[i].src = l[i].dst) ∨ (l[i].src ≠ l[i].dst ∧ ∃ k, ∃ hk : k < out.length, r.getD i 0 = k ∧ ends out[k] l[i] = true)
  top : topOf r = (out.length : Int) - 1
  stp : ∀ (i : Nat), i < l.length → r.getD i 0 ≤ topOf (r.take i) + 1
  cap : ∀ (k : Nat) (hk : k < out.length), out[k].cap = partS l r k
  pos : (∀ a, a ∈ l → 0 ≤ a.cap) → ∀ x, x ∈ out → 0 ≤ x.cap
  sum : (∀ a, a ∈ l → 0 ≤ a.cap) → capS out ≤ capS l
  le : out.length ≤ l.length
  far : ∀ k : Int, (out.length : Int) ≤ k → partS l r k = 0

theorem capS_set : ∀ (l : List Ar.Arc) (i : Nat) (a : Ar.Arc) (hi : i < l.length), capS (l.set i a) = capS l - l[i].cap + a.cap
  | [], i, a, hi => by simp at hi
  | x :: l, 0, a, hi => by simp [capS]; omega
  | x :: l, i + 1, a, hi => by
    have := capS_set l i a (by simpa using hi)
    simp only [List.set_cons_succ, capS_cons, this, List.getElem_cons_succ]; omega

theorem ji_nil : JI [] [] [] := ⟨rfl, fun i j hi => by simp at hi, fun x hx => by simp at hx, fun x hx => by simp at hx, fun i hi => by simp at hi, rfl, fun i hi => by simp at hi, fun k hk => by simp at hk, fun _ x hx => by simp at hx, fun _ => Int.le_refl _, Nat.le_refl _, fun k _ => rfl⟩

theorem getD_snoc (r : List Int) (k d : Int) (i : Nat) : (r ++ [k]).getD i d = if i < r.length then r.getD i d else if i = r.length then k else d := by
  simp only [List.getD_eq_getElem?_getD, List.getElem?_append]
  split
  · rfl
  · cases hd : i - r.length with
    | zero => rw [if_pos (by omega)]; rfl
    | succ j => rw [if_neg (by omega)]; rfl
theorem take_snoc (r : List Int) (k : Int) (i : Nat) (hi : i ≤ r.length) : (r ++ [k]).take i = r.take i := by
  rw [List.take_append]; simp [Nat.sub_eq_zero_of_le hi]

theorem ji_step {l out : List Ar.Arc} {r : List Int} (h : JI l out r) (a : Ar.Arc) : JI (l ++ [a]) (jstep (out, r) a).1 (jstep (out, r) a).2 := by
  have hl := h.len
  unfold jstep
  simp only
  by_cases hloop : a.src = a.dst
  · rw [if_pos hloop]
    show JI (l ++ [a]) out (r ++ [-1])
    refine ⟨by simp [hl], h.nd, h.nl, fun x hx => ?_, fun i hi => ?_, by rw [topOf_snoc, h.top]; omega, fun i hi => ?_, fun k hk => ?_, fun hp => h.pos fun b hb => hp b (by simp [hb]), fun hp => ?_, by have := h.le; simp; omega, fun k hk => ?_⟩
    · obtain ⟨b, hb, h1⟩ := h.src x hx
      exact ⟨b, by simp [hb], h1⟩
    · rw [getD_snoc]
      simp only [List.length_append, List.length_singleton] at hi
      by_cases hil : i < l.length
      · rw [if_pos (by omega)]
        have := h.prt i hil
        rw [List.getElem_append_left hil]
        exact this
      · have hie : i = l.length := by omega
        subst hie
        rw [if_neg (by omega), if_pos hl.symm]
        rw [List.getElem_append_right (Nat.le_refl _)]
        simp [hloop]
    · simp only [List.length_append, List.length_singleton] at hi
      rw [take_snoc _ _ _ (by omega), getD_snoc]
      by_cases hil : i < l.length
      · rw [if_pos (by omega)]; exact h.stp i hil
      · rw [if_neg (by omega), if_pos (by omega), List.take_of_length_le (by omega), h.top]; omega
    · rw [partS_snoc _ _ _ _ _ hl.symm, if_neg (by omega), ← h.cap k hk]; omega
    · have h1 := h.sum fun b hb => hp b (by simp [hb])
      have h2 := hp a (by simp)
      rw [capS_append]; simp only [capS]; omega
    · rw [partS_snoc _ _ _ _ _ hl.symm, if_neg (by omega), h.far k hk]; rfl
  · rw [if_neg hloop]
    cases hf : out.findIdx? (fun x => ends x a) with
    | some i =>
      rw [List.findIdx?_eq_some_iff_getElem] at hf
      obtain ⟨hi, he, _⟩ := hf
      rw [ends_iff] at he
      have hgd : out.getD i z3 = out[i] := by rw [List.getD_eq_getElem?_getD, List.getElem?_eq_getElem hi]; rfl
      simp only [hgd]
      have hends : ∀ (j : Nat) (hj : j < (out.set i (plus out[i] a)).length), ((out.set i (plus out[i] a))[j]).src = (out[j]'(by simpa using hj)).src ∧ ((out.set i (plus out[i] a))[j]).dst = (out[j]'(by simpa using hj)).dst := fun j hj => by
        rw [List.getElem_set]
        split
        · rename_i e; subst e; exact ⟨rfl, rfl⟩
        · exact ⟨rfl, rfl⟩
      have hmem : ∀ x, x ∈ out.set i (plus out[i] a) → x ∈ out ∨ x = plus out[i] a := fun x hx => List.mem_or_eq_of_mem_set hx
      have hoi := List.getElem_mem hi
      refine ⟨by simp [hl], fun p q hp hq hpq => ?_, fun x hx => ?_, fun x hx => ?_, fun j hj => ?_, by rw [topOf_snoc, h.top]; simp; omega, fun j hj => ?_, fun k hk => ?_, fun hp x hx => ?_, fun hp => ?_, by have := h.le; simp; omega, fun k hk => ?_⟩
      · rw [ends_iff] at hpq
        obtain ⟨e1, e2⟩ := hends p hp
        obtain ⟨e3, e4⟩ := hends q hq
        refine h.nd p q (by simpa using hp) (by simpa using hq) (ends_iff.2 ⟨?_, ?_⟩)
        · rw [← e1, ← e3]; exact hpq.1
        · rw [← e2, ← e4]; exact hpq.2
      · rcases hmem x hx with hx | rfl
        · exact h.nl x hx
        · exact (h.nl out[i] hoi : out[i].src ≠ out[i].dst)
      · rcases hmem x hx with hx | rfl
        · obtain ⟨b, hb, h1⟩ := h.src x hx
          exact ⟨b, by simp [hb], h1⟩
        · exact ⟨a, by simp, he.1.symm, he.2.symm⟩
      · rw [getD_snoc]
        simp only [List.length_append, List.length_singleton] at hj
        by_cases hjl : j < l.length
        · rw [if_pos (by omega), List.getElem_append_left hjl]
          rcases h.prt j hjl with h1 | ⟨h1, k, hk, h2, h3⟩
          · exact .inl h1
          · obtain ⟨e1, e2⟩ := hends k (by simpa using hk)
            rw [ends_iff] at h3
            exact .inr ⟨h1, k, by simpa using hk, h2, ends_iff.2 ⟨e1.trans h3.1, e2.trans h3.2⟩⟩
        · have hje : j = l.length := by omega
          subst hje
          rw [if_neg (by omega), if_pos hl.symm, List.getElem_append_right (Nat.le_refl _)]
          obtain ⟨e1, e2⟩ := hends i (by simpa using hi)
          refine .inr ⟨by simpa using hloop, i, by simpa using hi, rfl, ends_iff.2 ⟨?_, ?_⟩⟩
          · simpa using e1.trans he.1
          · simpa using e2.trans he.2
      · simp only [List.length_append, List.length_singleton] at hj
        rw [take_snoc _ _ _ (by omega), getD_snoc]
        by_cases hjl : j < l.length
        · rw [if_pos (by omega)]; exact h.stp j hjl
        · rw [if_neg (by omega), if_pos (by omega), List.take_of_length_le (by omega), h.top]; omega
      · have hk' : k < out.length := by simpa using hk
        rw [partS_snoc _ _ _ _ _ hl.symm, List.getElem_set]
        by_cases e : i = k
        · subst e
          rw [if_pos rfl, if_pos rfl, ← h.cap i hk']; rfl
        · rw [if_neg e, if_neg (by omega), ← h.cap k hk']; omega
      · have hp' : ∀ b, b ∈ l → 0 ≤ b.cap := fun b hb => hp b (by simp [hb])
        rcases hmem x hx with hx | rfl
        · exact h.pos hp' x hx
        · have h1 := h.pos hp' _ hoi
          have h2 := hp a (by simp)
          show 0 ≤ out[i].cap + a.cap
          omega
      · have h1 := h.sum fun b hb => hp b (by simp [hb])
        rw [capS_append, capS_set _ _ _ hi]
        simp only [capS, plus]; omega
      · simp only [List.length_set] at hk
        rw [partS_snoc _ _ _ _ _ hl.symm, if_neg (by omega), h.far k hk]; rfl
    | none =>
      rw [List.findIdx?_eq_none_iff] at hf
      refine ⟨by simp [hl], fun p q hp hq hpq => ?_, fun x hx => ?_, fun x hx => ?_, fun j hj => ?_, by rw [topOf_snoc, h.top]; simp; omega, fun j hj => ?_, fun k hk => ?_, fun hp x hx => ?_, fun hp => ?_, by have := h.le; simp; omega, fun k hk => ?_⟩
      · simp only [List.length_append, List.length_singleton] at hp hq
        by_cases hpo : p < out.length
        · by_cases hqo : q < out.length
          · rw [List.getElem_append_left hpo, List.getElem_append_left hqo] at hpq
            exact h.nd p q hpo hqo hpq
          · exfalso
            rw [List.getElem_append_left hpo, List.getElem_append_right (by omega)] at hpq
            have := hf _ (List.getElem_mem hpo)
            simp at hpq
            rw [hpq] at this; cases this
        · by_cases hqo : q < out.length
          · exfalso
            rw [List.getElem_append_right (by omega), List.getElem_append_left hqo] at hpq
            have := hf _ (List.getElem_mem hqo)
            simp [ends_iff] at hpq
            rw [ends_iff.2 ⟨hpq.1.symm, hpq.2.symm⟩] at this; cases this
          · omega
      · rcases List.mem_append.1 hx with hx | hx
        · exact h.nl x hx
        · simp at hx; subst hx; exact hloop
      · rcases List.mem_append.1 hx with hx | hx
        · obtain ⟨b, hb, h1⟩ := h.src x hx
          exact ⟨b, by simp [hb], h1⟩
        · simp at hx; subst hx; exact ⟨x, by simp, rfl, rfl⟩
      · rw [getD_snoc]
        simp only [List.length_append, List.length_singleton] at hj
        by_cases hjl : j < l.length
        · rw [if_pos (by omega), List.getElem_append_left hjl]
          rcases h.prt j hjl with h1 | ⟨h1, k, hk, h2, h3⟩
          · exact .inl h1
          · exact .inr ⟨h1, k, by simp; omega, h2, by rw [List.getElem_append_left hk]; exact h3⟩
        · have hje : j = l.length := by omega
          subst hje
          rw [if_neg (by omega), if_pos hl.symm, List.getElem_append_right (Nat.le_refl _)]
          refine .inr ⟨by simpa using hloop, out.length, by simp, rfl, ?_⟩
          rw [List.getElem_append_right (Nat.le_refl _)]
          simp [ends_iff]
      · simp only [List.length_append, List.length_singleton] at hj
        rw [take_snoc _ _ _ (by omega), getD_snoc]
        by_cases hjl : j < l.length
        · rw [if_pos (by omega)]; exact h.stp j hjl
        · rw [if_neg (by omega), if_pos (by omega), List.take_of_length_le (by omega), h.top]; omega
      · simp only [List.length_append, List.length_singleton] at hk
        rw [partS_snoc _ _ _ _ _ hl.symm]
        by_cases hko : k < out.length
        · rw [List.getElem_append_left hko, if_neg (by omega), ← h.cap k hko]; omega
        · have : k = out.length := by omega
          subst this
          rw [List.getElem_append_right (Nat.le_refl _), if_pos rfl, h.far _ (by omega)]
          simp
      · rcases List.mem_append.1 hx with hx | hx
        · exact h.pos (fun b hb => hp b (by simp [hb])) x hx
        · simp at hx; subst hx; exact hp x (by simp)
      · have h1 := h.sum fun b hb => hp b (by simp [hb])
        rw [capS_append, capS_append]; omega
      · simp only [List.length_append, List.length_singleton] at hk
        rw [partS_snoc _ _ _ _ _ hl.symm, if_neg (by omega), h.far k (by omega)]; rfl
theorem ji_take (l : List Ar.Arc) : ∀ i, i ≤ l.length → JI (l.take i) (joinL (l.take i)).1 (joinL (l.take i)).2
  | 0, _ => by simpa [joinL] using ji_nil
  | i + 1, hi => by
    have := ji_step (ji_take l i (by omega)) (l[i]'(by omega))
    have e : l.take (i + 1) = l.take i ++ [l[i]'(by omega)] := by rw [List.take_add_one, List.getElem?_eq_getElem (by omega)]; rfl
    rw [e, joinL_snoc]
    exact this
theorem ji_all (l : List Ar.Arc) : JI l (joinL l).1 (joinL l).2 := by
  have := ji_take l l.length (Nat.le_refl _)
  rwa [List.take_length] at this
/-- Arcs of which no two have the same ends, joined: as they are. -/
theorem join_id {l : List Ar.Arc} (nd : ∀ (i j : Nat) (hi : i < l.length) (hj : j < l.length), ends l[i] l[j] = true → i = j) (nl : ∀ x, x ∈ l → x.src ≠ x.dst) : ∀ i, i ≤ l.length → joinL (l.take i) = (l.take i, (List.range i).map fun j : Nat => (j : Int))
  | 0, _ => by simp [joinL]
  | i + 1, hi => by
    have ih := join_id nd nl i (by omega)
    have e : l.take (i + 1) = l.take i ++ [l[i]'(by omega)] := by rw [List.take_add_one, List.getElem?_eq_getElem (by omega)]; rfl
    rw [e, joinL_snoc, ih]
    unfold jstep
    rw [if_neg (nl _ (List.getElem_mem _))]
    have hf : (l.take i).findIdx? (fun x => ends x (l[i]'(by omega))) = none := by
      rw [List.findIdx?_eq_none_iff]
      intro x hx
      obtain ⟨j, hj, rfl⟩ := List.mem_iff_getElem.1 hx
      simp only [List.length_take] at hj
      rw [List.getElem_take]
      refine Bool.eq_false_iff.2 fun h => ?_
      have := nd j i (by omega) (by omega) h
      omega
    simp only [hf, List.range_succ, List.map_append, List.length_take]
    rw [Nat.min_eq_left (by omega)]; rfl
end Go.Proofs.Ytpojdgeginigjaa
/- Join: the walk's tools. -/
set_option linter.unusedSimpArgs false
set_option linter.unusedVariables false
namespace Go.Proofs.Ytpojdgeginigjaa
open Go Go.Ar
set_option maxRecDepth 100000

/-- The map of ends: entries in the order of what is joined. -/
def keyA (a : Ar.Arc) : V := .agg [.int .i64 a.src, .int .i64 a.dst]
def mapP (j : Nat) : List Ar.Arc → List (V × V)
  | [] => []
  | x :: l => (keyA x, .int .i64 (j : Int)) :: mapP (j + 1) l
theorem mapP_length (j : Nat) (l : List Ar.Arc) : (mapP j l).length = l.length := by
  induction l generalizing j with
  | nil => rfl
  | cons x l ih => simp [mapP, ih]
theorem mapP_snoc (l : List Ar.Arc) (a : Ar.Arc) : ∀ j, mapP j (l ++ [a]) = mapP j l ++ [(keyA a, .int .i64 ((j + l.length : Nat) : Int))] := by
  induction l with
  | nil => intro j; simp [mapP]
  | cons x l ih => intro j; simp only [List.cons_append, mapP, ih]; congr 4; simp; omega
theorem mapP_set (l : List Ar.Arc) : ∀ (i j : Nat) (a' : Ar.Arc) (hi : i < l.length), keyA a' = keyA l[i] → mapP j (l.set i a') = mapP j l := by
  induction l with
  | nil => intro i j a' hi; simp at hi
  | cons x l ih =>
    intro i j a' hi h
    cases i with
    | zero => simp only [List.getElem_cons_zero] at h; simp [mapP, h]
    | succ i =>
      simp only [List.getElem_cons_succ] at h
      simp only [List.set_cons_succ, mapP]
      rw [ih i (j + 1) a' (by simpa using hi) h]
theorem findk_mapP (a : Ar.Arc) : ∀ (l : List Ar.Arc) (j i : Nat), findk (keyA a) (mapP j l) i = some (match l.findIdx? (fun x => ends x a) with | some p => some (i + p, .int .i64 ((j + p : Nat) : Int)) | none => none)
  | [], j, i => rfl
  | x :: l, j, i => by
    have ih := findk_mapP a l (j + 1) (i + 1)
    have hk : keyEq (keyA a) (keyA x) = some (a.src == x.src && a.dst == x.dst) := by simp [keyEq, keyA]
    simp only [mapP, findk, hk]
    rw [List.findIdx?_cons]
    by_cases he : ends x a = true
    · have : (a.src == x.src && a.dst == x.dst) = true := by
        rw [ends_iff] at he
        simp [he.1, he.2]
      rw [this, if_pos he]; simp
    · have : (a.src == x.src && a.dst == x.dst) = false := by
        refine Bool.eq_false_iff.2 fun h => he ?_
        simp at h
        exact ends_iff.2 ⟨h.1.symm, h.2.symm⟩
      rw [this, if_neg he]
      simp only
      rw [ih]
      cases l.findIdx? (fun x => ends x a) with
      | none => rfl
      | some p => simp only [Option.map_some]; congr 3; · omega
                  · congr 2; omega

/-- A row of whole numbers that is owned. -/
def OwnI (H : Heap) (B : Nat) (x : V) (l : List Int) : Prop := (x = .nils ∧ l = []) ∨ ∃ k, x = .sl k 0 l.length l.length ∧ B ≤ k ∧ H[k]? = some (.cells (l.map (.int .i64)) (.gr 1))
theorem OwnI.il {H : Heap} {B : Nat} {x : V} {l : List Int} (h : OwnI H B x l) : IL .i64 H x l := by
  rcases h with ⟨rfl, rfl⟩ | ⟨k, rfl, _, h⟩
  · exact ⟨rfl, rfl⟩
  · exact IL.own h
theorem OwnI.frame {H H' : Heap} {B : Nat} {x : V} {l : List Int} (h : OwnI H B x l) (e : ∀ k, x.blk? = some k → H'[k]? = H[k]?) : OwnI H' B x l := by
  rcases h with ⟨rfl, rfl⟩ | ⟨k, rfl, hb, h⟩
  · exact .inl ⟨rfl, rfl⟩
  · exact .inr ⟨k, rfl, hb, (e k rfl).trans h⟩
theorem pushI {H : Heap} {B : Nat} {x : V} {l : List Int} (h : OwnI H B x l) (hB : B ≤ H.length) (v : Int) (hs : l.length ≤ 2 ^ 20) : ∃ x' H', appendv (H ++ [.cells [.int .i64 v] .ex]) 1 8 x (.sl H.length 0 1 1) = some (x', H') ∧ OwnI H' B x' (l ++ [v]) ∧ H.length ≤ H'.length ∧ (∀ k, k < H.length → x.blk? ≠ some k → H'[k]? = H[k]?) ∧ (∀ k, x'.blk? = some k → H.length ≤ k) := by
  have hc : cellsOf (H ++ [.cells [.int .i64 v] .ex]) 1 (.sl H.length 0 1 1) = some [.int .i64 v] := by simp [cellsOf, rdn]
  have hsc : [V.int .i64 v].all V.scalar = true := rfl
  rcases h with ⟨rfl, rfl⟩ | ⟨k, rfl, hb, hk⟩
  · refine ⟨.sl (H.length + 1) 0 1 1, H ++ [.cells [.int .i64 v] .ex] ++ [.cells [.int .i64 v] (.gr 1)], ?_, .inr ⟨H.length + 1, rfl, by omega, by simp⟩, by simp, fun k hk _ => by simp [List.getElem?_append_left, hk], fun k hk => by simp [V.blk?] at hk; omega⟩
    unfold appendv
    simp only [lenOf, hc, hsc]
    rw [if_neg (by simp), if_neg (by omega), if_pos (by unfold lim; omega)]
    simp
  · have hkl := (List.getElem?_eq_some_iff.1 hk).1
    have hk' : (H ++ [Blk.cells [.int .i64 v] .ex])[k]? = some (.cells (l.map (.int .i64)) (.gr 1)) := by rw [List.getElem?_append_left hkl]; exact hk
    refine ⟨.sl (H.length + 1) 0 (l.length + 1) (l.length + 1), (H ++ [Blk.cells [.int .i64 v] .ex]).set k .dead ++ [.cells ((l ++ [v]).map (.int .i64)) (.gr 1)], ?_, .inr ⟨H.length + 1, by simp, by omega, ?_⟩, by simp; omega, fun j hj hne => ?_, fun j hj => by simp [V.blk?] at hj; omega⟩
    · unfold appendv
      simp only [lenOf, hc, hsc, hk']
      rw [if_neg (by simp), if_pos (by simp), if_neg (by omega), if_pos (by unfold lim; omega), if_pos ⟨trivial, trivial⟩, List.take_of_length_le (by simp)]
      simp
    · rw [List.getElem?_append_right (by simp)]; simp
    · rw [List.getElem?_append_left (by simp; omega), List.getElem?_set_ne (fun e => hne (by rw [e]; rfl)), List.getElem?_append_left hj]
end Go.Proofs.Ytpojdgeginigjaa
/- The flat code of functions. -/
set_option linter.unusedSimpArgs false
set_option linter.unusedVariables false
namespace Go.Proofs.Ytpojdgeginigjaa
open Go Go.Ar
set_option maxRecDepth 100000
def gc6 : MC := (.seq (.reg [⟨(.some 1), (.box 4 (.t 0)), .none⟩, ⟨(.some 2), (.mv (.c (.bool .false))), .none⟩]) (.seq (.reg [⟨(.some 19), (.fadr 3 (.t 1)), .none⟩, ⟨(.some 20), (.load 1 .false (.t 19)), .none⟩, ⟨(.some 21), (.len (.t 20)), .none⟩, ⟨(.some 22), (.bin .gtr (.t 21) (.c (.int .i64 200))), .none⟩]) (.seq (.cond (.t 22) (.seq (.reg [⟨(.some 23), (.call (.c (.fn 26 [] [])) []), .none⟩, ⟨(.some 2), (.mv (.t 23)), .none⟩]) .ret) .skip) (.seq (.reg [⟨(.some 25), (.load 4 .true (.t 1)), .none⟩, ⟨(.some 26), (.call (.c (.fn 40 [] [])) [(.t 25)]), .none⟩, ⟨(.some 24), (.mv (.t 26)), .none⟩, ⟨(.some 27), (.ext (.t 24) 0), .none⟩, ⟨(.some 28), (.ext (.t 24) 1), .none⟩, ⟨(.some 3), (.alloc [(.int .i64 0), (.int .i64 0), (.int .i64 0), .nils]), .none⟩, ⟨.none, (.store 4 (.t 3) (.t 27)), .none⟩, ⟨(.some 4), (.mv (.t 28)), .none⟩]) (.seq (.reg [⟨(.some 29), (.load 4 .true (.t 1)), .none⟩, ⟨(.some 30), (.call (.c (.fn 28 [] [])) [(.t 29)]), .none⟩, ⟨(.some 31), (.bin .neq (.t 30) (.c (.int .i64 0))), .none⟩]) (.seq (.cond (.t 31) (.seq (.reg [⟨(.some 32), (.fadr 3 (.t 3)), .none⟩, ⟨(.some 33), (.load 1 .false (.t 32)), .none⟩, ⟨(.some 34), (.len (.t 33)), .none⟩, ⟨(.some 35), (.bin .eql (.t 34) (.c (.int .i64 0))), .none⟩, ⟨(.some 36), (.mv (.t 35)), .none⟩, ⟨(.some 37), (.mv (.t 4)), (.some (36, .true))⟩, ⟨(.some 38), (.len (.t 37)), (.some (36, .true))⟩, ⟨(.some 39), (.bin .eql (.t 38) (.c (.int .i64 0))), (.some (36, .true))⟩, ⟨(.some 40), (.pick (.t 36) (.t 39) (.c (.bool .false))), .none⟩, ⟨(.some 41), (.mv (.t 40)), .none⟩, ⟨(.some 42), (.fadr 0 (.t 3)), (.some (41, .true))⟩, ⟨(.some 43), (.load 1 .false (.t 42)), (.some (41, .true))⟩, ⟨(.some 44), (.bin .eql (.t 43) (.c (.int .i64 0))), (.some (41, .true))⟩, ⟨(.some 45), (.pick (.t 41) (.t 44) (.c (.bool .false))), .none⟩, ⟨(.some 46), (.mv (.t 45)), .none⟩, ⟨(.some 47), (.call (.c (.fn 26 [] [])) []), (.some (46, .true))⟩, ⟨(.some 48), (.pick (.t 46) (.t 47) (.c (.bool .false))), .none⟩, ⟨(.some 2), (.mv (.t 48)), .none⟩]) .ret) .skip) (.seq (.reg [⟨(.some 49), (.load 4 .true (.t 3)), .none⟩, ⟨(.some 50), (.call (.c (.fn 28 [] [])) [(.t 49)]), .none⟩, ⟨(.some 51), (.bin .neq (.t 50) (.c (.int .i64 0))), .none⟩, ⟨(.some 52), (.mv (.t 51)), .none⟩, ⟨(.some 53), (.mv (.t 4)), (.some (52, .false))⟩, ⟨(.some 54), (.len (.t 53)), (.some (52, .false))⟩, ⟨(.some 55), (.fadr 3 (.t 1)), (.some (52, .false))⟩, ⟨(.some 56), (.load 1 .false (.t 55)), (.some (52, .false))⟩, ⟨(.some 57), (.len (.t 56)), (.some (52, .false))⟩, ⟨(.some 58), (.bin .neq (.t 54) (.t 57)), (.some (52, .false))⟩, ⟨(.some 59), (.pick (.t 52) (.c (.bool .true)) (.t 58)), .none⟩, ⟨(.some 60), (.mv (.t 59)), .none⟩, ⟨(.some 61), (.fadr 0 (.t 3)), (.some (60, .false))⟩, ⟨(.some 62), (.load 1 .false (.t 61)), (.some (60, .false))⟩, ⟨(.some 63), (.fadr 0 (.t 1)), (.some (60, .false))⟩, ⟨(.some 64), (.load 1 .false (.t 63)), (.some (60, .false))⟩, ⟨(.some 65), (.bin .neq (.t 62) (.t 64)), (.some (60, .false))⟩, ⟨(.some 66), (.pick (.t 60) (.c (.bool .true)) (.t 65)), .none⟩, ⟨(.some 67), (.mv (.t 66)), .none⟩, ⟨(.some 68), (.fadr 1 (.t 3)), (.some (67, .false))⟩, ⟨(.some 69), (.load 1 .false (.t 68)), (.some (67, .false))⟩, ⟨(.some 70), (.fadr 1 (.t 1)), (.some (67, .false))⟩, ⟨(.some 71), (.load 1 .false (.t 70)), (.some (67, .false))⟩, ⟨(.some 72), (.bin .neq (.t 69) (.t 71)), (.some (67, .false))⟩, ⟨(.some 73), (.pick (.t 67) (.c (.bool .true)) (.t 72)), .none⟩, ⟨(.some 74), (.mv (.t 73)), .none⟩, ⟨(.some 75), (.fadr 2 (.t 3)), (.some (74, .false))⟩, ⟨(.some 76), (.load 1 .false (.t 75)), (.some (74, .false))⟩, ⟨(.some 77), (.fadr 2 (.t 1)), (.some (74, .false))⟩, ⟨(.some 78), (.load 1 .false (.t 77)), (.some (74, .false))⟩, ⟨(.some 79), (.bin .neq (.t 76) (.t 78)), (.some (74, .false))⟩, ⟨(.some 80), (.pick (.t 74) (.c (.bool .true)) (.t 79)), .none⟩]) (.seq (.cond (.t 80) (.seq (.reg [⟨(.some 2), (.mv (.c (.bool .false))), .none⟩]) .ret) .skip) (.seq (.reg [⟨(.some 81), .mkmap, .none⟩, ⟨(.some 5), (.mv (.t 81)), .none⟩]) (.seq (.reg [⟨(.some 82), (.fadr 3 (.t 3)), .none⟩, ⟨(.some 83), (.load 1 .false (.t 82)), .none⟩, ⟨(.some 84), (.len (.t 83)), .none⟩, ⟨(.some 85), (.mv (.c (.int .i64 0))), .none⟩]) (.seq (.block 0 (.loop (.seq (.reg [⟨(.some 86), (.bin .lss (.t 85) (.t 84)), .none⟩]) (.seq (.cond (.t 86) .skip (.exit 0)) (.seq (.block 1 (.seq (.reg [⟨(.some 87), (.iadr 3 (.t 83) (.t 85)), .none⟩, ⟨(.some 88), (.load 3 .true (.t 87)), .none⟩, ⟨(.some 7), (.alloc [(.int .i64 0), (.int .i64 0), (.int .i64 0)]), .none⟩, ⟨.none, (.store 3 (.t 7) (.t 88)), .none⟩]) (.seq (.dreg 0 [(.plain, ⟨(.some 89), (.mv (.t 5)), .none⟩), (.plain, ⟨(.some 90), (.fadr 0 (.t 7)), .none⟩), (.plain, ⟨(.some 91), (.load 1 .false (.t 90)), .none⟩), (.plain, ⟨(.some 92), (.fadr 1 (.t 7)), .none⟩), (.plain, ⟨(.some 93), (.load 1 .false (.t 92)), .none⟩), (.plain, ⟨(.some 94), (.build [(.int .i64 0), (.int .i64 0)] [(0, (1, (.t 91))), (1, (1, (.t 93)))]), .none⟩), (.plain, ⟨(.some 95), (.lookup .pair (.int .i64 0) .false (.t 89) (.t 94)), .none⟩), (.plain, ⟨(.some 96), (.bin .add (.t 95) (.c (.int .i64 1))), .none⟩), (.plain, ⟨(.some 97), (.mapent .pair (.int .i64 0) (.t 89) (.t 94)), .none⟩), (.plain, ⟨(.some 98), (.ext (.t 97) 1), .none⟩), (.plain, ⟨.none, (.entst (.t 89) (.t 98) (.t 96)), .none⟩)] []) (.seq (.reg [⟨(.some 99), (.mv (.t 5)), .none⟩, ⟨(.some 100), (.fadr 0 (.t 7)), .none⟩, ⟨(.some 101), (.load 1 .false (.t 100)), .none⟩, ⟨(.some 102), (.fadr 1 (.t 7)), .none⟩, ⟨(.some 103), (.load 1 .false (.t 102)), .none⟩, ⟨(.some 104), (.build [(.int .i64 0), (.int .i64 0)] [(0, (1, (.t 101))), (1, (1, (.t 103)))]), .none⟩, ⟨(.some 105), (.lookup .pair (.int .i64 0) .false (.t 99) (.t 104)), .none⟩, ⟨(.some 106), (.bin .gtr (.t 105) (.c (.int .i64 1))), .none⟩, ⟨(.some 107), (.mv (.t 106)), .none⟩, ⟨(.some 108), (.fadr 0 (.t 7)), (.some (107, .false))⟩, ⟨(.some 109), (.load 1 .false (.t 108)), (.some (107, .false))⟩, ⟨(.some 110), (.fadr 1 (.t 7)), (.some (107, .false))⟩, ⟨(.some 111), (.load 1 .false (.t 110)), (.some (107, .false))⟩, ⟨(.some 112), (.bin .eql (.t 109) (.t 111)), (.some (107, .false))⟩, ⟨(.some 113), (.pick (.t 107) (.c (.bool .true)) (.t 112)), .none⟩]) (.cond (.t 113) (.seq (.reg [⟨(.some 2), (.mv (.c (.bool .false))), .none⟩]) .ret) .skip))))) (.reg [⟨(.some 114), (.bin .add (.t 85) (.c (.int .i64 1))), .none⟩, ⟨(.some 85), (.mv (.t 114)), .none⟩])))))) (.seq (.reg [⟨(.some 115), (.load 4 .true (.t 3)), .none⟩, ⟨(.some 116), (.call (.c (.fn 27 [] [])) [(.t 115)]), .none⟩, ⟨(.some 8), (.alloc [(.int .i64 0), (.int .i64 0), (.int .i64 0), .nils]), .none⟩, ⟨.none, (.store 4 (.t 8) (.t 116)), .none⟩]) (.seq (.reg [⟨(.some 9), (.mv (.c (.int .i64 (-1)))), .none⟩]) (.seq (.reg [⟨(.some 117), (.mv (.t 4)), .none⟩, ⟨(.some 118), (.len (.t 117)), .none⟩, ⟨(.some 119), (.mv (.c (.int .i64 0))), .none⟩]) (.seq (.block 2 (.loop (.seq (.reg [⟨(.some 120), (.bin .lss (.t 119) (.t 118)), .none⟩]) (.seq (.cond (.t 120) .skip (.exit 2)) (.seq (.block 3 (.seq (.reg [⟨(.some 121), (.mv (.t 119)), .none⟩, ⟨(.some 122), (.iadr 1 (.t 117) (.t 119)), .none⟩, ⟨(.some 123), (.load 1 .false (.t 122)), .none⟩, ⟨(.some 10), (.mv (.t 121)), .none⟩, ⟨(.some 11), (.mv (.t 123)), .none⟩]) (.seq (.reg [⟨(.some 124), (.fadr 3 (.t 1)), .none⟩, ⟨(.some 125), (.load 1 .false (.t 124)), .none⟩, ⟨(.some 126), (.mv (.t 10)), .none⟩, ⟨(.some 127), (.iadr 3 (.t 125) (.t 126)), .none⟩, ⟨(.some 128), (.load 3 .true (.t 127)), .none⟩, ⟨(.some 12), (.alloc [(.int .i64 0), (.int .i64 0), (.int .i64 0)]), .none⟩, ⟨.none, (.store 3 (.t 12) (.t 128)), .none⟩]) (.seq (.reg [⟨(.some 129), (.mv (.t 11)), .none⟩, ⟨(.some 130), (.bin .lss (.t 129) (.c (.int .i64 0))), .none⟩, ⟨(.some 131), (.fadr 0 (.t 12)), .none⟩, ⟨(.some 132), (.load 1 .false (.t 131)), .none⟩, ⟨(.some 133), (.fadr 1 (.t 12)), .none⟩, ⟨(.some 134), (.load 1 .false (.t 133)), .none⟩, ⟨(.some 135), (.bin .eql (.t 132) (.t 134)), .none⟩, ⟨(.some 136), (.eq .true .bool (.t 130) (.t 135)), .none⟩, ⟨(.some 137), (.mv (.t 136)), .none⟩, ⟨(.some 138), (.mv (.t 11)), (.some (137, .false))⟩, ⟨(.some 139), (.fadr 3 (.t 3)), (.some (137, .false))⟩, ⟨(.some 140), (.load 1 .false (.t 139)), (.some (137, .false))⟩, ⟨(.some 141), (.len (.t 140)), (.some (137, .false))⟩, ⟨(.some 142), (.bin .geq (.t 138) (.t 141)), (.some (137, .false))⟩, ⟨(.some 143), (.pick (.t 137) (.c (.bool .true)) (.t 142)), .none⟩, ⟨(.some 144), (.mv (.t 143)), .none⟩, ⟨(.some 145), (.mv (.t 11)), (.some (144, .false))⟩, ⟨(.some 146), (.mv (.t 9)), (.some (144, .false))⟩, ⟨(.some 147), (.bin .add (.t 146) (.c (.int .i64 1))), (.some (144, .false))⟩, ⟨(.some 148), (.bin .gtr (.t 145) (.t 147)), (.some (144, .false))⟩, ⟨(.some 149), (.pick (.t 144) (.c (.bool .true)) (.t 148)), .none⟩]) (.seq (.cond (.t 149) (.seq (.reg [⟨(.some 2), (.mv (.c (.bool .false))), .none⟩]) .ret) .skip) (.seq (.reg [⟨(.some 150), (.mv (.t 9)), .none⟩, ⟨(.some 151), (.mv (.t 11)), .none⟩, ⟨(.some 152), (.mx (.t 150) (.t 151)), .none⟩, ⟨(.some 9), (.mv (.t 152)), .none⟩]) (.seq (.reg [⟨(.some 153), (.mv (.t 11)), .none⟩, ⟨(.some 154), (.bin .lss (.t 153) (.c (.int .i64 0))), .none⟩]) (.seq (.cond (.t 154) (.exit 3) .skip) (.seq (.dreg 0 [(.plain, ⟨(.some 155), (.fadr 3 (.t 3)), .none⟩), (.plain, ⟨(.some 156), (.load 1 .false (.t 155)), .none⟩), (.plain, ⟨(.some 157), (.mv (.t 11)), .none⟩), (.plain, ⟨(.some 158), (.iadr 3 (.t 156) (.t 157)), .none⟩), (.plain, ⟨(.some 159), (.fadr 0 (.t 158)), .none⟩), (.plain, ⟨(.some 160), (.load 1 .false (.t 159)), .none⟩), (.plain, ⟨(.some 161), (.fadr 0 (.t 12)), .none⟩), (.plain, ⟨(.some 162), (.load 1 .false (.t 161)), .none⟩), (.plain, ⟨(.some 163), (.bin .neq (.t 160) (.t 162)), .none⟩), (.plain, ⟨(.some 164), (.mv (.t 163)), .none⟩), (.plain, ⟨(.some 165), (.fadr 3 (.t 3)), (.some (164, .false))⟩), (.plain, ⟨(.some 166), (.load 1 .false (.t 165)), (.some (164, .false))⟩), (.plain, ⟨(.some 167), (.mv (.t 11)), (.some (164, .false))⟩), (.plain, ⟨(.some 168), (.iadr 3 (.t 166) (.t 167)), (.some (164, .false))⟩), (.plain, ⟨(.some 169), (.fadr 1 (.t 168)), (.some (164, .false))⟩), (.plain, ⟨(.some 170), (.load 1 .false (.t 169)), (.some (164, .false))⟩), (.plain, ⟨(.some 171), (.fadr 1 (.t 12)), (.some (164, .false))⟩), (.plain, ⟨(.some 172), (.load 1 .false (.t 171)), (.some (164, .false))⟩), (.plain, ⟨(.some 173), (.bin .neq (.t 170) (.t 172)), (.some (164, .false))⟩), (.plain, ⟨(.some 174), (.pick (.t 164) (.c (.bool .true)) (.t 173)), .none⟩)] []) (.seq (.cond (.t 174) (.seq (.reg [⟨(.some 2), (.mv (.c (.bool .false))), .none⟩]) .ret) .skip) (.dreg 0 [(.plain, ⟨(.some 175), (.fadr 3 (.t 8)), .none⟩), (.plain, ⟨(.some 176), (.load 1 .false (.t 175)), .none⟩), (.plain, ⟨(.some 177), (.mv (.t 11)), .none⟩), (.plain, ⟨(.some 178), (.iadr 3 (.t 176) (.t 177)), .none⟩), (.plain, ⟨(.some 179), (.fadr 2 (.t 178)), .none⟩), (.plain, ⟨(.some 180), (.load 1 .false (.t 179)), .none⟩), (.plain, ⟨(.some 181), (.fadr 2 (.t 12)), .none⟩), (.plain, ⟨(.some 182), (.load 1 .false (.t 181)), .none⟩), (.plain, ⟨(.some 183), (.bin .sub (.t 180) (.t 182)), .none⟩), (.plain, ⟨(.some 184), (.iadr 3 (.t 176) (.t 177)), .none⟩), (.plain, ⟨(.some 185), (.fadr 2 (.t 184)), .none⟩), (.plain, ⟨.none, (.store 1 (.t 185) (.t 183)), .none⟩)] []))))))))))) (.reg [⟨(.some 186), (.bin .add (.t 119) (.c (.int .i64 1))), .none⟩, ⟨(.some 119), (.mv (.t 186)), .none⟩])))))) (.seq (.reg [⟨(.some 187), (.fadr 3 (.t 8)), .none⟩, ⟨(.some 188), (.load 1 .false (.t 187)), .none⟩, ⟨(.some 189), (.len (.t 188)), .none⟩, ⟨(.some 190), (.mv (.c (.int .i64 0))), .none⟩]) (.seq (.block 4 (.loop (.seq (.reg [⟨(.some 191), (.bin .lss (.t 190) (.t 189)), .none⟩]) (.seq (.cond (.t 191) .skip (.exit 4)) (.seq (.block 5 (.seq (.reg [⟨(.some 192), (.iadr 3 (.t 188) (.t 190)), .none⟩, ⟨(.some 193), (.load 3 .true (.t 192)), .none⟩, ⟨(.some 14), (.alloc [(.int .i64 0), (.int .i64 0), (.int .i64 0)]), .none⟩, ⟨.none, (.store 3 (.t 14) (.t 193)), .none⟩]) (.seq (.reg [⟨(.some 194), (.fadr 2 (.t 14)), .none⟩, ⟨(.some 195), (.load 1 .false (.t 194)), .none⟩, ⟨(.some 196), (.bin .neq (.t 195) (.c (.int .i64 0))), .none⟩]) (.cond (.t 196) (.seq (.reg [⟨(.some 2), (.mv (.c (.bool .false))), .none⟩]) .ret) .skip)))) (.reg [⟨(.some 197), (.bin .add (.t 190) (.c (.int .i64 1))), .none⟩, ⟨(.some 190), (.mv (.t 197)), .none⟩])))))) (.seq (.reg [⟨(.some 199), (.load 4 .true (.t 3)), .none⟩, ⟨(.some 200), (.call (.c (.fn 40 [] [])) [(.t 199)]), .none⟩, ⟨(.some 198), (.mv (.t 200)), .none⟩, ⟨(.some 201), (.ext (.t 198) 0), .none⟩, ⟨(.some 202), (.ext (.t 198) 1), .none⟩, ⟨(.some 15), (.alloc [(.int .i64 0), (.int .i64 0), (.int .i64 0), .nils]), .none⟩, ⟨.none, (.store 4 (.t 15) (.t 201)), .none⟩, ⟨(.some 16), (.mv (.t 202)), .none⟩]) (.seq (.reg [⟨(.some 203), (.mv (.t 16)), .none⟩, ⟨(.some 204), (.len (.t 203)), .none⟩, ⟨(.some 205), (.mv (.c (.int .i64 0))), .none⟩]) (.seq (.block 6 (.loop (.seq (.reg [⟨(.some 206), (.bin .lss (.t 205) (.t 204)), .none⟩]) (.seq (.cond (.t 206) .skip (.exit 6)) (.seq (.block 7 (.seq (.reg [⟨(.some 207), (.mv (.t 205)), .none⟩, ⟨(.some 208), (.iadr 1 (.t 203) (.t 205)), .none⟩, ⟨(.some 209), (.load 1 .false (.t 208)), .none⟩, ⟨(.some 17), (.mv (.t 207)), .none⟩, ⟨(.some 18), (.mv (.t 209)), .none⟩]) (.seq (.reg [⟨(.some 210), (.mv (.t 18)), .none⟩, ⟨(.some 211), (.mv (.t 17)), .none⟩, ⟨(.some 212), (.bin .neq (.t 210) (.t 211)), .none⟩]) (.cond (.t 212) (.seq (.reg [⟨(.some 2), (.mv (.c (.bool .false))), .none⟩]) .ret) .skip)))) (.reg [⟨(.some 213), (.bin .add (.t 205) (.c (.int .i64 1))), .none⟩, ⟨(.some 205), (.mv (.t 213)), .none⟩])))))) (.seq (.reg [⟨(.some 214), (.load 4 .true (.t 15)), .none⟩, ⟨(.some 215), (.load 4 .true (.t 3)), .none⟩, ⟨(.some 216), (.call (.c (.fn 41 [] [])) [(.t 214), (.t 215)]), .none⟩, ⟨(.some 217), (.mv (.t 216)), .none⟩, ⟨(.some 218), (.call (.c (.fn 26 [] [])) []), (.some (217, .true))⟩, ⟨(.some 219), (.pick (.t 217) (.t 218) (.c (.bool .false))), .none⟩, ⟨(.some 2), (.mv (.t 219)), .none⟩]) .ret)))))))))))))))))))))
theorem nc6 : nc Try.prog 6 = some (1, [(.t 2)], gc6) := by kernel_rfl
def gc40 : MC := (.seq (.reg [⟨(.some 1), (.box 4 (.t 0)), .none⟩, ⟨(.some 2), (.alloc [(.int .i64 0), (.int .i64 0), (.int .i64 0), .nils]), .none⟩, ⟨(.some 3), (.mv (.c .nils)), .none⟩]) (.seq (.reg [⟨(.some 12), (.load 4 .true (.t 1)), .none⟩, ⟨(.some 13), (.call (.c (.fn 28 [] [])) [(.t 12)]), .none⟩, ⟨(.some 14), (.bin .neq (.t 13) (.c (.int .i64 0))), .none⟩]) (.seq (.cond (.t 14) (.seq (.reg [⟨(.some 15), (.build [(.int .i64 0), (.int .i64 0), (.int .i64 0), .nils] []), .none⟩, ⟨.none, (.store 4 (.t 2) (.t 15)), .none⟩, ⟨(.some 3), (.mv (.c .nils)), .none⟩]) .ret) .skip) (.seq (.reg [⟨(.some 16), (.fadr 0 (.t 1)), .none⟩, ⟨(.some 17), (.load 1 .false (.t 16)), .none⟩, ⟨(.some 18), (.fadr 1 (.t 1)), .none⟩, ⟨(.some 19), (.load 1 .false (.t 18)), .none⟩, ⟨(.some 20), (.fadr 2 (.t 1)), .none⟩, ⟨(.some 21), (.load 1 .false (.t 20)), .none⟩, ⟨(.some 22), (.build [(.int .i64 0), (.int .i64 0), (.int .i64 0), .nils] [(0, (1, (.t 17))), (1, (1, (.t 19))), (2, (1, (.t 21)))]), .none⟩, ⟨(.some 4), (.alloc [(.int .i64 0), (.int .i64 0), (.int .i64 0), .nils]), .none⟩, ⟨.none, (.store 4 (.t 4) (.t 22)), .none⟩]) (.seq (.reg [⟨(.some 23), .mkmap, .none⟩, ⟨(.some 5), (.mv (.t 23)), .none⟩]) (.seq (.reg [⟨(.some 6), (.mv (.c .nils)), .none⟩]) (.seq (.reg [⟨(.some 24), (.fadr 3 (.t 1)), .none⟩, ⟨(.some 25), (.load 1 .false (.t 24)), .none⟩, ⟨(.some 26), (.len (.t 25)), .none⟩, ⟨(.some 27), (.mv (.c (.int .i64 0))), .none⟩]) (.seq (.block 0 (.loop (.seq (.reg [⟨(.some 28), (.bin .lss (.t 27) (.t 26)), .none⟩]) (.seq (.cond (.t 28) .skip (.exit 0)) (.seq (.block 1 (.seq (.reg [⟨(.some 29), (.iadr 3 (.t 25) (.t 27)), .none⟩, ⟨(.some 30), (.load 3 .true (.t 29)), .none⟩, ⟨(.some 8), (.alloc [(.int .i64 0), (.int .i64 0), (.int .i64 0)]), .none⟩, ⟨.none, (.store 3 (.t 8) (.t 30)), .none⟩]) (.seq (.reg [⟨(.some 31), (.fadr 0 (.t 8)), .none⟩, ⟨(.some 32), (.load 1 .false (.t 31)), .none⟩, ⟨(.some 33), (.fadr 1 (.t 8)), .none⟩, ⟨(.some 34), (.load 1 .false (.t 33)), .none⟩, ⟨(.some 35), (.build [(.int .i64 0), (.int .i64 0)] [(0, (1, (.t 32))), (1, (1, (.t 34)))]), .none⟩, ⟨(.some 9), (.alloc [(.int .i64 0), (.int .i64 0)]), .none⟩, ⟨.none, (.store 2 (.t 9) (.t 35)), .none⟩]) (.seq (.reg [⟨(.some 37), (.mv (.t 5)), .none⟩, ⟨(.some 38), (.load 2 .true (.t 9)), .none⟩, ⟨(.some 39), (.lookup .pair (.int .i64 0) .true (.t 37) (.t 38)), .none⟩, ⟨(.some 36), (.mv (.t 39)), .none⟩, ⟨(.some 40), (.ext (.t 36) 0), .none⟩, ⟨(.some 41), (.ext (.t 36) 1), .none⟩, ⟨(.some 10), (.mv (.t 40)), .none⟩, ⟨(.some 11), (.mv (.t 41)), .none⟩]) (.seq (.block 2 (.seq (.reg [⟨(.some 55), (.fadr 0 (.t 8)), .none⟩, ⟨(.some 56), (.load 1 .false (.t 55)), .none⟩, ⟨(.some 57), (.fadr 1 (.t 8)), .none⟩, ⟨(.some 58), (.load 1 .false (.t 57)), .none⟩, ⟨(.some 59), (.bin .eql (.t 56) (.t 58)), .none⟩, ⟨(.some 54), (.mv (.t 59)), .none⟩]) (.cond (.t 54) (.reg [⟨(.some 10), (.mv (.c (.int .i64 (-1)))), .none⟩]) (.seq (.reg [⟨(.some 61), (.mv (.t 11)), .none⟩, ⟨(.some 60), (.mv (.t 61)), .none⟩]) (.cond (.t 60) (.dreg 0 [(.plain, ⟨(.some 62), (.fadr 3 (.t 4)), .none⟩), (.plain, ⟨(.some 63), (.load 1 .false (.t 62)), .none⟩), (.plain, ⟨(.some 64), (.mv (.t 10)), .none⟩), (.plain, ⟨(.some 65), (.iadr 3 (.t 63) (.t 64)), .none⟩), (.plain, ⟨(.some 66), (.fadr 2 (.t 65)), .none⟩), (.plain, ⟨(.some 67), (.load 1 .false (.t 66)), .none⟩), (.plain, ⟨(.some 68), (.fadr 2 (.t 8)), .none⟩), (.plain, ⟨(.some 69), (.load 1 .false (.t 68)), .none⟩), (.plain, ⟨(.some 70), (.bin .add (.t 67) (.t 69)), .none⟩), (.plain, ⟨(.some 71), (.iadr 3 (.t 63) (.t 64)), .none⟩), (.plain, ⟨(.some 72), (.fadr 2 (.t 71)), .none⟩), (.plain, ⟨.none, (.store 1 (.t 72) (.t 70)), .none⟩)] []) (.seq (.reg [⟨(.some 42), (.fadr 3 (.t 4)), .none⟩, ⟨(.some 43), (.load 1 .false (.t 42)), .none⟩, ⟨(.some 44), (.len (.t 43)), .none⟩, ⟨(.some 10), (.mv (.t 44)), .none⟩]) (.seq (.reg [⟨(.some 45), (.mv (.t 5)), .none⟩, ⟨(.some 46), (.load 2 .true (.t 9)), .none⟩, ⟨(.some 47), (.mv (.t 10)), .none⟩, ⟨.none, (.mapupd .pair (.t 45) (.t 46) (.t 47)), .none⟩]) (.reg [⟨(.some 48), (.fadr 3 (.t 4)), .none⟩, ⟨(.some 49), (.load 1 .false (.t 48)), .none⟩, ⟨(.some 50), (.load 3 .true (.t 8)), .none⟩, ⟨(.some 51), (.bslice 1 3 [(.int .i64 0), (.int .i64 0), (.int .i64 0)] [(0, (.t 50))]), .none⟩, ⟨(.some 52), (.append 3 24 (.t 49) (.t 51)), .none⟩, ⟨(.some 53), (.fadr 3 (.t 4)), .none⟩, ⟨.none, (.store 1 (.t 53) (.t 52)), .none⟩])))))))) (.reg [⟨(.some 73), (.mv (.t 6)), .none⟩, ⟨(.some 74), (.mv (.t 10)), .none⟩, ⟨(.some 75), (.bslice 1 1 [(.int .i64 0)] [(0, (.t 74))]), .none⟩, ⟨(.some 76), (.append 1 8 (.t 73) (.t 75)), .none⟩, ⟨(.some 6), (.mv (.t 76)), .none⟩])))))) (.reg [⟨(.some 77), (.bin .add (.t 27) (.c (.int .i64 1))), .none⟩, ⟨(.some 27), (.mv (.t 77)), .none⟩])))))) (.seq (.reg [⟨(.some 78), (.load 4 .true (.t 4)), .none⟩, ⟨(.some 79), (.mv (.t 6)), .none⟩, ⟨.none, (.store 4 (.t 2) (.t 78)), .none⟩, ⟨(.some 3), (.mv (.t 79)), .none⟩]) .ret)))))))))
theorem nc40 : nc Try.prog 40 = some (1, [(.c 2 4 .true), (.t 3)], gc40) := by kernel_rfl
end Go.Proofs.Ytpojdgeginigjaa
/- Join: the walk. -/
set_option linter.unusedSimpArgs false
set_option linter.unusedVariables false
namespace Go.Proofs.Ytpojdgeginigjaa
open Go Go.Ar
set_option maxRecDepth 100000

/-- What is joined so far, in memory: in box k4 and row x; the map km; row y. -/
structure JM (HA H : Heap) (n : Net) (k4 km : Nat) (x y : V) (out : List Ar.Arc) (r : List Int) : Prop where
  hp : Hp HA H []
  mb : MB HA.length H k4 { n with arcs := out } x
  own : OwnI H HA.length y r
  mp : H[km]? = some (.mp (mapP 0 out))
  ge : HA.length ≤ km
  ne : k4 ≠ km
  xm : ∀ k, x.blk? = some k → k ≠ km
  y4 : ∀ k, y.blk? = some k → k ≠ k4 ∧ k ≠ km ∧ x.blk? ≠ some k
theorem JM.app {HA H : Heap} {n : Net} {k4 km : Nat} {x y : V} {out : List Ar.Arc} {r : List Int} (h : JM HA H n k4 km x y out r) (G : Heap) : JM HA (H ++ G) n k4 km x y out r :=
  ⟨Hp_app h.hp G, h.mb.app G, h.own.frame fun k hk => List.getElem?_append_left (Rw.lt h.own.il k hk), by rw [List.getElem?_append_left (List.getElem?_eq_some_iff.1 h.mp).1]; exact h.mp, h.ge, h.ne, h.xm, h.y4⟩

theorem keyf_pair (a : Ar.Arc) (out : List Ar.Arc) : keyf .pair (.agg [.int .i64 a.src, .int .i64 a.dst]) (mapP 0 out) = some (match out.findIdx? (fun x => ends x a) with | some p => some (p, .int .i64 (p : Int)) | none => none) := by
  have h := findk_mapP a out 0 0
  unfold keyA at h
  have e : keyf .pair (.agg [.int .i64 a.src, .int .i64 a.dst]) (mapP 0 out) = findk (.agg [.int .i64 a.src, .int .i64 a.dst]) (mapP 0 out) 0 := rfl
  rw [e, h]
  cases out.findIdx? (fun x => ends x a) <;> simp

set_option maxHeartbeats 4000000 in
theorem join_ok {n : Net} {a : V} {H : Heap} (h : AL H a n.arcs) (hs : n.arcs.length ≤ 2 ^ 20) (hc0 : chk n = 0) (hcb : ∀ i, ∀ hi : i < n.arcs.length, ∀ p, ∀ hp : p < (joinL (n.arcs.take i)).1.length, 0 ≤ ((joinL (n.arcs.take i)).1[p]).cap ∧ 0 ≤ n.arcs[i].cap ∧ ((joinL (n.arcs.take i)).1[p]).cap + n.arcs[i].cap ≤ big) :
    ∃ x y H', callL E (.f 40) [NV n a] H = some (.tup [NV (joinN n) x, y], H') ∧ (∃ G, H' = H ++ G) ∧ Own3 H' H.length x (joinN n).arcs ∧ OwnI H' H.length y (joinL n.arcs).2 ∧ ∀ k, y.blk? = some k → x.blk? ≠ some k := by
  have key : ∃ v H', callL E (.f 40) [NV n a] H = some (v, H') ∧ ∃ x y, v = .tup [NV (joinN n) x, y] ∧ (∃ G, H' = H ++ G) ∧ Own3 H' H.length x (joinN n).arcs ∧ OwnI H' H.length y (joinL n.arcs).2 ∧ ∀ k, y.blk? = some k → x.blk? ≠ some k := by
    refine call_E rfl nc40 rfl ?_
    unfold gc40
    have hl : lenOf a = some n.arcs.length := Rw.len h
    unfold NV
    refine wa_sr ⟨_, by simp [len_cells hl]; rfl, ?_⟩
    have hA := h.app [nbox n a, .cells [.int .i64 0, .int .i64 0, .int .i64 0, .nils] .ex]
    have hpH := Hp.app H [nbox n a, .cells [.int .i64 0, .int .i64 0, .int .i64 0, .nils] .ex]
    have hk0 : (H ++ [nbox n a, .cells [.int .i64 0, .int .i64 0, .int .i64 0, .nils] .ex])[H.length]? = some (nbox n a) := by simp
    have hk1 : (H ++ [nbox n a, .cells [.int .i64 0, .int .i64 0, .int .i64 0, .nils] .ex])[H.length + 1]? = some (.cells [.int .i64 0, .int .i64 0, .int .i64 0, .nils] .ex) := by simp
    have hlA : (H ++ [nbox n a, .cells [.int .i64 0, .int .i64 0, .int .i64 0, .nils] .ex]).length = H.length + 2 := by simp
    change WP E _ ⟨_, H ++ [nbox n a, .cells [.int .i64 0, .int .i64 0, .int .i64 0, .nils] .ex]⟩ _
    generalize H ++ [nbox n a, .cells [.int .i64 0, .int .i64 0, .int .i64 0, .nils] .ex] = HA at *
    generalize hkb : H.length = kb at *
    obtain ⟨G1, hck⟩ := (pc_check hA (by omega)).run
    rw [hc0] at hck
    unfold NV at hck
    have b1 : rdn HA kb 0 4 = some [.int .i64 n.N, .int .i64 n.S, .int .i64 n.T, a] := by simp [rdn, hk0, nbox]
    refine wa_sr ⟨_, by simp -implicitDefEqProofs [b1, hck]; rfl, ?_⟩
    refine wa_if (t := false) (by simp) (fun h => by cases h) (fun _ => ?_)
    have hp1 : Hp HA (HA ++ G1) [] := Hp.app _ _
    generalize HA ++ G1 = H1 at *
    have c0 : H1[kb]? = some (nbox n a) := by rw [hp1.old kb (by omega)]; exact hk0
    have q0 : rd H1 kb 0 = some (.int .i64 n.N) := by simp [rd, c0, nbox]
    have q1 : rd H1 kb 1 = some (.int .i64 n.S) := by simp [rd, c0, nbox]
    have q2 : rd H1 kb 2 = some (.int .i64 n.T) := by simp [rd, c0, nbox]
    have q3 : ∀ G, rd (H1 ++ G) kb 3 = some a := fun G => by
      simp only [rd]
      rw [List.getElem?_append_left (by have := hp1.le; omega), c0]; rfl
    have hp1l := hp1.le
    refine wa_sr ⟨_, by simp -implicitDefEqProofs [q0, q1, q2, fillc]; rfl, ?_⟩
    refine wa_sr ⟨_, by simp; rfl, ?_⟩
    refine wa_sr ⟨_, by simp; rfl, ?_⟩
    refine wa_sr ⟨_, by simp -implicitDefEqProofs [q3, hl]; rfl, ?_⟩
    have hJ0 : JM HA (H1 ++ [nbox { n with arcs := [] } .nils, .mp []]) n H1.length (H1.length + 1) .nils .nils [] [] :=
      ⟨Hp_app hp1 _, ⟨hp1.le, by simp, .inl ⟨rfl, rfl⟩, fun k hk => by simp [V.blk?] at hk⟩, .inl ⟨rfl, rfl⟩, by simp [mapP], by omega, by omega, fun k hk => by simp [V.blk?] at hk, fun k hk => by simp [V.blk?] at hk⟩
    change WP E _ ⟨_, H1 ++ [nbox { n with arcs := [] } .nils, .mp []]⟩ _
    generalize H1 ++ [nbox { n with arcs := [] } .nils, .mp []] = H2 at *
    generalize H1.length = k4 at *
    generalize k4 + 1 = km at *
    refine wa_cut (fun s => s.τ 2 = .ptr (kb + 1) 0 ∧ s.τ 4 = .ptr k4 0 ∧ ∃ x y, s.τ 6 = y ∧ JM HA s.H n k4 km x y (joinL n.arcs).1 (joinL n.arcs).2) ?_ ?_
    · refine wa_for (n := n.arcs.length) (fun i (y : V × V) => [(2, .ptr (kb + 1) 0), (4, .ptr k4 0), (5, .map km), (6, y.2), (25, a)]) (fun i y H' => JM HA H' n k4 km y.1 y.2 (joinL (n.arcs.take i)).1 (joinL (n.arcs.take i)).2) (.nils, .nils)
        (by decide) (fun i hi => w64 (by omega) (by omega)) (by simp) (by simp) (by simp [Rg]) (by simpa [joinL] using hJ0) (by simp) ?_ ?_
      · rintro i ⟨x, y⟩ τ H3 hi t27 t26 ⟨t2, t4, t5, t6, t25, -⟩ hJ
        dsimp only [ev] at *
        have hcap := hcb i hi
        have hji := ji_take n.arcs i (by omega)
        have hrl : (joinL (n.arcs.take i)).2.length ≤ 2 ^ 20 := by rw [hji.len]; simp; omega
        have hstep : joinL (n.arcs.take (i + 1)) = jstep (joinL (n.arcs.take i)) n.arcs[i] := by
          rw [List.take_add_one, List.getElem?_eq_getElem hi]; exact joinL_snoc _ _
        rw [hstep]
        have hol : (joinL (n.arcs.take i)).1.length ≤ 2 ^ 20 := by have := hji.le; simp at this; omega
        generalize hst : joinL (n.arcs.take i) = st at *
        obtain ⟨out, r⟩ := st
        dsimp only at *
        obtain ⟨ka, o, cc, hae, _, _, hrd⟩ := AL.at (hJ.hp.rw hA : AL H3 a n.arcs) hi
        generalize n.arcs[i] = ar at *
        unfold Arc.cells at hrd
        refine wa_sr ⟨_, by simp -implicitDefEqProofs [t25, t27, hae, hi, hrd]; rfl, ?_⟩
        refine wa_sr ⟨_, by simp -implicitDefEqProofs [fillc]; rfl, ?_⟩
        have hJ2 := hJ.app [.cells ar.cells .ex, .cells [.int .i64 ar.src, .int .i64 ar.dst] .ex]
        have k8 : ∀ G o, rd (H3 ++ [.cells ar.cells .ex, .cells [.int .i64 ar.src, .int .i64 ar.dst] .ex] ++ G) H3.length o = ar.cells[o]? := fun G o => by simp
        have k8' : ∀ G, rdn (H3 ++ [.cells ar.cells .ex, .cells [.int .i64 ar.src, .int .i64 ar.dst] .ex] ++ G) H3.length 0 3 = some ar.cells := fun G => by simp [Arc.cells]
        have k9 : ∀ G, rdn (H3 ++ [.cells ar.cells .ex, .cells [.int .i64 ar.src, .int .i64 ar.dst] .ex] ++ G) (H3.length + 1) 0 2 = some [.int .i64 ar.src, .int .i64 ar.dst] := fun G => by simp
        change WP E _ ⟨_, H3 ++ [.cells ar.cells .ex, .cells [.int .i64 ar.src, .int .i64 ar.dst] .ex]⟩ _
        have hl3 : (H3 ++ [Blk.cells ar.cells .ex, .cells [.int .i64 ar.src, .int .i64 ar.dst] .ex]).length = H3.length + 2 := by simp
        have h4lt := hJ.mb.lt
        have hxlt : ∀ k, x.blk? = some k → k < H3.length := Rw.lt hJ.mb.own.al
        have hmlt := (List.getElem?_eq_some_iff.1 hJ.mp).1
        generalize H3 ++ [Blk.cells ar.cells .ex, .cells [.int .i64 ar.src, .int .i64 ar.dst] .ex] = H4 at *
        generalize hk8 : H3.length = k8n at *
        have k9e := k9 []
        have k8e0 := k8 [] 0
        have k8e1 := k8 [] 1
        have k8e2 := k8 [] 2
        rw [List.append_nil] at k9e k8e0 k8e1 k8e2
        simp only [Arc.cells, List.getElem?_cons_zero, List.getElem?_cons_succ] at k8e0 k8e1 k8e2
        have hmo : mapOf H4 (.map km) = some (mapP 0 out) := by simp [mapOf, mpAt, hJ2.mp]
        have hma : mpAt H4 km = some (mapP 0 out) := by simp [mpAt, hJ2.mp]
        have hkf := keyf_pair ar out
        have hx4 := hJ2.mb.rd3 []
        rw [List.append_nil] at hx4
        have hxl : lenOf x = some out.length := Rw.len hJ2.mb.own.al
        -- what is told of this arc
        refine wa_cut (fun s => s.H = H4 ∧ ∃ v : Int, Rg s.τ [(2, .ptr (kb + 1) 0), (4, .ptr k4 0), (5, .map km), (6, y), (25, a), (27, .int .i64 i), (26, .int .i64 n.arcs.length), (8, .ptr k8n 0), (9, .ptr (k8n + 1) 0), (10, .int .i64 v), (11, .bool (out.findIdx? fun x => ends x ar).isSome)] ∧ ∀ p, out.findIdx? (fun x => ends x ar) = some p → v = p) ?_ ?_
        · cases hfi : out.findIdx? (fun x => ends x ar) with
          | none =>
            rw [hfi] at hkf
            refine wa_regs ⟨_, by simp -implicitDefEqProofs [t5, k9e, hmo, hkf]; rfl, rfl, 0, by simp [Rg, t2, t4, t5, t6, t25, t27, t26, hae], fun p hp => by cases hp⟩
          | some p =>
            rw [hfi] at hkf
            refine wa_regs ⟨_, by simp -implicitDefEqProofs [t5, k9e, hmo, hkf]; rfl, rfl, p, by simp [Rg, t2, t4, t5, t6, t25, t27, t26, hae], fun q hq => by cases hq; rfl⟩
        clear t2 t4 t5 t6 t25 t27 t26 τ
        rintro ⟨τ, H4'⟩ ⟨hH4, v, ⟨t2, t4, t5, t6, t25, t27, t26, t8, t9, t10, t11, -⟩, hv⟩
        dsimp only at hH4 t2 t4 t5 t6 t25 t27 t26 t8 t9 t10 t11
        subst H4'
        refine wa_cut (fun s => ∃ (x' : V) (k : Int), (jstep (out, r) ar).2 = r ++ [k] ∧ JM HA s.H n k4 km x' y (jstep (out, r) ar).1 r ∧ Rg s.τ [(2, .ptr (kb + 1) 0), (4, .ptr k4 0), (5, .map km), (6, y), (25, a), (27, .int .i64 i), (26, .int .i64 n.arcs.length), (10, .int .i64 k)]) ?_ ?_
        · refine wa_block ?_
          refine wa_sr ⟨_, by simp -implicitDefEqProofs [t8, k8e0, k8e1]; rfl, ?_⟩
          by_cases hloop : ar.src = ar.dst
          · refine wa_cond (t := true) (by simp [hloop]) (fun _ => ?_) (fun h => by cases h)
            refine wa_regs ⟨_, by simp; rfl, ?_⟩
            have hj : jstep (out, r) ar = (out, r ++ [-1]) := by unfold jstep; rw [if_pos hloop]
            rw [hj]
            exact ⟨x, -1, rfl, hJ2, by simp [Rg, t2, t4, t5, t6, t25, t27, t26]⟩
          · have hloop' : (ar.src == ar.dst) = false := by simpa using hloop
            refine wa_cond (t := false) (by simp [hloop']) (fun h => by cases h) (fun _ => ?_)
            cases hfi : out.findIdx? (fun x => ends x ar) with
            | some p =>
              rw [hfi] at t11
              obtain rfl := hv p hfi
              have hfi' := hfi
              rw [List.findIdx?_eq_some_iff_getElem] at hfi'
              obtain ⟨hpl, _, _⟩ := hfi'
              have hgd : out.getD p z3 = out[p] := by rw [List.getD_eq_getElem?_getD, List.getElem?_eq_getElem hpl]; rfl
              have hj : jstep (out, r) ar = (out.set p (plus out[p] ar), r ++ [(p : Int)]) := by unfold jstep; rw [if_neg hloop]; simp only [hfi, hgd]
              rw [hj]
              obtain ⟨c1, c2, c3⟩ := hcap p hpl
              unfold big at c3
              have hw : IntKind.i64.wrap (out[p].cap + ar.cap) = out[p].cap + ar.cap := w64 (by omega) (by omega)
              obtain ⟨kx, hxe, _, hkxl, hrx, hwx⟩ := hJ2.mb.arc (i := p) hpl
              have hrx0 := hrx []
              rw [List.append_nil] at hrx0
              have g0 := rd_of_rdn (j := 2) hrx0 (by omega)
              simp only [Arc.cells, List.getElem?_cons_zero, List.getElem?_cons_succ] at g0
              obtain ⟨H5, w5, l5, m5, o5⟩ := hwx 2 (.int .i64 (out[p].cap + ar.cap)) (plus out[p] ar) (by omega) rfl rfl
              refine wa_sr ⟨_, by simp [t11]; rfl, ?_⟩
              refine wa_cond (t := true) (by simp) (fun _ => ?_) (fun h => by cases h)
              refine wa_dreg (s' := _) (by
                simp -implicitDefEqProofs [dinsL, dins, t4, t8, t10, hx4, hxe, hpl, g0, k8e2, hw, w5]
                rfl) (by simp) ?_
              have hkx := hJ2.xm kx (by rw [hxe]; rfl)
              refine ⟨x, p, rfl, ⟨Hp_frame hJ2.hp l5 o5 (hJ2.mb.own.ge kx (by rw [hxe]; rfl)), m5, hJ2.own.frame fun k hk => o5 k (fun e => (hJ2.y4 k hk).2.2 (by rw [e, hxe]; rfl)), ?_, hJ2.ge, hJ2.ne, hJ2.xm, hJ2.y4⟩, by simp [Rg, t2, t4, t5, t6, t25, t27, t26, t10, hxe]⟩
              show H5[km]? = some (.mp (mapP 0 (out.set p (plus out[p] ar))))
              rw [mapP_set out p 0 (plus out[p] ar) hpl rfl, o5 km (fun e => hkx e.symm)]
              exact hJ2.mp
            | none =>
              rw [hfi] at t11 hkf
              have hj : jstep (out, r) ar = (out ++ [ar], r ++ [(out.length : Int)]) := by unfold jstep; rw [if_neg hloop]; simp only [hfi]
              rw [hj]
              refine wa_sr ⟨_, by simp [t11]; rfl, ?_⟩
              refine wa_cond (t := false) (by simp) (fun h => by cases h) (fun _ => ?_)
              refine wa_sr ⟨_, by simp -implicitDefEqProofs [t4, hx4, hxl]; rfl, ?_⟩
              have hkml := (List.getElem?_eq_some_iff.1 hJ2.mp).1
              obtain ⟨H5, hH5, m5, o5, l5⟩ : ∃ X, H4.set km (.mp (mapP 0 out ++ [(.agg [.int .i64 ar.src, .int .i64 ar.dst], .int .i64 (out.length : Int))])) = X ∧ X[km]? = some (.mp (mapP 0 (out ++ [ar]))) ∧ (∀ k, k ≠ km → X[k]? = H4[k]?) ∧ X.length = H4.length :=
                ⟨_, rfl, by rw [List.getElem?_set_self hkml, mapP_snoc]; simp [keyA], fun k hk => List.getElem?_set_ne (fun e => hk e.symm), by simp⟩
              refine wa_sr ⟨_, by simp -implicitDefEqProofs [t5, t9, k9e, hma, hkf, hH5]; rfl, ?_⟩
              have hne := hJ2.ne
              have M5 : MB HA.length H5 k4 { n with arcs := out } x := hJ2.mb.frame (o5 _ hne) (fun j hj => o5 j (hJ2.xm j hj))
              have hp5 := Hp_frame hJ2.hp l5 o5 hJ2.ge
              have q35 := M5.rd3 []
              have k85 : rdn H5 k8n 0 3 = some [.int .i64 ar.src, .int .i64 ar.dst, .int .i64 ar.cap] := by
                have := k8' []
                rw [List.append_nil] at this
                simp only [rdn] at this ⊢
                rw [o5 k8n (by omega)]; exact this
              rw [List.append_nil] at q35
              obtain ⟨x5, H6, p1, p2, p3, p4, p5⟩ := push3 M5.own hp5.le ar hol
              have hx5s : x5.scalar = true := len_scalar (Rw.len p2.al)
              have h4l := M5.lt
              have b6 : H6[k4]? = some (nbox { n with arcs := out } x) := by rw [p4 k4 h4l (fun e => M5.ne k4 e rfl)]; exact M5.box
              obtain ⟨H7, w7, c7, f7, l7⟩ : ∃ X, wr H6 k4 3 [x5] = some X ∧ X[k4]? = some (nbox { n with arcs := out ++ [ar] } x5) ∧ (∀ j, j ≠ k4 → X[j]? = H6[j]?) ∧ X.length = H6.length :=
                ⟨_, wr1 (o := 3) (v := x5) (cs := [.int .i64 n.N, .int .i64 n.S, .int .i64 n.T, x]) b6 rfl (by simp) hx5s, List.getElem?_set_self (List.getElem?_eq_some_iff.1 b6).1, fun j hj => List.getElem?_set_ne (fun e => hj e.symm), by simp⟩
              have p1' : appendv (H5 ++ [.cells [.int .i64 ar.src, .int .i64 ar.dst, .int .i64 ar.cap] .ex]) 3 24 x (.sl H5.length 0 1 1) = some (x5, H6) := p1
              refine wa_regs ⟨_, by simp -implicitDefEqProofs [t4, t8, q35, k85, fillc, p1', hx5s, len_cells (Rw.len p2.al), w7]; rfl, ?_⟩
              have hge := hJ2.mb.ge
              have hple := hp5.le
              have hf : ∀ j, j < H5.length → j ≠ k4 → x.blk? ≠ some j → H7[j]? = H5[j]? := fun j h1 h2 h3 => by rw [f7 j h2, p4 j h1 h3]
              refine ⟨x5, out.length, rfl, ⟨⟨by simp only; omega, fun j hj => ?_, fun q hq => by simp at hq, List.nodup_nil⟩, ⟨hge, c7, p2.frame (fun j hj => f7 j (by have := p5 j hj; omega)), fun j hj => by have := p5 j hj; omega⟩, hJ2.own.frame fun j hj => ?_, ?_, hJ2.ge, hne, fun j hj => by have := p5 j hj; omega, fun j hj => ⟨(hJ2.y4 j hj).1, (hJ2.y4 j hj).2.1, fun e => ?_⟩⟩, by simp [Rg, t2, t4, t5, t6, t25, t27, t26]⟩
              · rw [hf j (by omega) (by omega) (fun e => by have := M5.own.ge j e; omega)]
                exact hp5.old j hj
              · have hjl := Rw.lt hJ2.own.il j hj
                rw [hf j (by omega) (hJ2.y4 j hj).1 (hJ2.y4 j hj).2.2, o5 j (hJ2.y4 j hj).2.1]
              · show H7[km]? = _
                rw [hf km (by omega) (fun e => hne e.symm) (fun e => hJ2.xm km e rfl)]
                exact m5
              · have h1 := p5 j e
                have h2 := Rw.lt hJ2.own.il j hj
                omega
        · rintro ⟨τ, H5⟩ ⟨x', k, hj2, hJ5, t2, t4, t5, t6, t25, t27, t26, t10, -⟩
          dsimp only at hJ5 t2 t4 t5 t6 t25 t27 t26 t10
          obtain ⟨y', H6, p1, p2, p3, p4, p5⟩ := pushI hJ5.own hJ5.hp.le k hrl
          refine wa_regs ⟨_, by simp -implicitDefEqProofs [t6, t10, fillc, p1]; rfl, ?_⟩
          have g4 := hJ5.mb.lt
          have gm := (List.getElem?_eq_some_iff.1 hJ5.mp).1
          have hle := hJ5.hp.le
          refine ⟨by simp [t27], by simp [t26], (x', y'), by simp [Rg, t2, t4, t5, t25], ?_⟩
          simp only [hj2]
          refine ⟨⟨by omega, fun j hj => ?_, fun q hq => by simp at hq, List.nodup_nil⟩, hJ5.mb.frame (p4 _ g4 (fun e => (hJ5.y4 _ e).1 rfl)) (fun j hj => p4 j (Rw.lt hJ5.mb.own.al j hj) (fun e => (hJ5.y4 j e).2.2 hj)), p2, ?_, hJ5.ge, hJ5.ne, hJ5.xm, fun j hj => ?_⟩
          · rw [p4 j (by omega) (fun e => by have := (hJ5.own.il); rcases hJ5.own with ⟨h1, _⟩ | ⟨q, h1, h2, _⟩ <;> rw [h1] at e <;> simp [V.blk?] at e; omega)]
            exact hJ5.hp.old j hj
          · rw [p4 km gm (fun e => (hJ5.y4 _ e).2.1 rfl)]; exact hJ5.mp
          · have := p5 j hj
            exact ⟨by omega, by omega, fun e => by have := Rw.lt hJ5.mb.own.al j e; omega⟩
      · rintro ⟨x, y⟩ τ H3 ⟨t2, t4, t5, t6, t25, -⟩ hJ
        rw [List.take_length] at hJ
        exact ⟨t2, t4, x, y, t6, hJ⟩
    · rintro ⟨τ, H3⟩ ⟨t2, t4, x, y, t6, hJ⟩
      dsimp only at t2 t4 t6 hJ
      have hr4 := hJ.mb.rd []
      rw [List.append_nil] at hr4
      have hxs : x.scalar = true := len_scalar (Rw.len hJ.mb.own.al)
      have hk15 : H3[kb + 1]? = some (.cells [.int .i64 0, .int .i64 0, .int .i64 0, .nils] .ex) := by rw [hJ.hp.old (kb + 1) (by omega)]; exact hk1
      have hk15l := (List.getElem?_eq_some_iff.1 hk15).1
      obtain ⟨H6, w6, hk6, hf6, hl6⟩ : ∃ X, wr H3 (kb + 1) 0 [.int .i64 n.N, .int .i64 n.S, .int .i64 n.T, x] = some X ∧ X[kb + 1]? = some (nbox (joinN n) x) ∧ (∀ k, k ≠ kb + 1 → X[k]? = H3[k]?) ∧ X.length = H3.length :=
        ⟨_, wrAll (vs := [.int .i64 n.N, .int .i64 n.S, .int .i64 n.T, x]) hk15 rfl rfl (by simp only [List.all_cons, List.all_nil, hxs]; rfl), List.getElem?_set_self hk15l, fun k hk => List.getElem?_set_ne (fun e => hk e.symm), by simp⟩
      refine wa_sr ⟨_, by simp -implicitDefEqProofs [t2, t4, t6, hr4, w6]; rfl, ?_⟩
      have hr6 : rdn H6 (kb + 1) 0 4 = some [.int .i64 n.N, .int .i64 n.S, .int .i64 n.T, x] := by simp [rdn, hk6, nbox, joinN]
      have hp7 : Hp H H3 [] := hpH.x hJ.hp
      refine wa_ret ⟨by simp, _, by simp -implicitDefEqProofs [t2, hr6]; rfl, x, y, rfl, ?_, ?_, ?_, fun k hk => (hJ.y4 k hk).2.2⟩
      · exact (Hp_frame hp7 hl6 hf6 (by omega)).eq
      · have : Own3 H6 HA.length x (joinN n).arcs := hJ.mb.own.frame fun k hk => hf6 k (by have := hJ.mb.own.ge k hk; omega)
        rcases this with ⟨h2, h3⟩ | ⟨k, m, h2, h3, h4, h5⟩
        · exact .inl ⟨h2, h3⟩
        · exact .inr ⟨k, m, h2, by omega, h4, h5⟩
      · have : OwnI H6 HA.length y (joinL n.arcs).2 := by
          rcases hJ.own with ⟨h2, h3⟩ | ⟨k, h2, h3, h4⟩
          · exact .inl ⟨h2, h3⟩
          · exact .inr ⟨k, h2, h3, by rw [hf6 k (by omega)]; exact h4⟩
        rcases this with ⟨h2, h3⟩ | ⟨k, h2, h3, h4⟩
        · exact .inl ⟨h2, h3⟩
        · exact .inr ⟨k, h2, by omega, h4⟩
  obtain ⟨v, H', h, x, y, rfl, h2, h3, h4, h5⟩ := key
  exact ⟨x, y, H', h, h2, h3, h4, h5⟩
end Go.Proofs.Ytpojdgeginigjaa
/- Join: the rest of its contract; what follows of it. -/
set_option linter.unusedSimpArgs false
set_option linter.unusedVariables false
namespace Go.Proofs.Ytpojdgeginigjaa
open Go Go.Ar
set_option maxRecDepth 100000

theorem join_bad {n : Net} {a : V} {H : Heap} (h : AL H a n.arcs) (hs : n.arcs.length ≤ 2 ^ 20) (hc0 : chk n ≠ 0) :
    ∃ H', callL E (.f 40) [NV n a] H = some (.tup [.agg [.int .i64 0, .int .i64 0, .int .i64 0, .nils], .nils], H') ∧ ∃ G, H' = H ++ G := by
  have key : ∃ v H', callL E (.f 40) [NV n a] H = some (v, H') ∧ v = .tup [.agg [.int .i64 0, .int .i64 0, .int .i64 0, .nils], .nils] ∧ ∃ G, H' = H ++ G := by
    refine call_E rfl nc40 rfl ?_
    unfold gc40
    have hl : lenOf a = some n.arcs.length := Rw.len h
    unfold NV
    refine wa_sr ⟨_, by simp [len_cells hl]; rfl, ?_⟩
    have hA := h.app [nbox n a, .cells [.int .i64 0, .int .i64 0, .int .i64 0, .nils] .ex]
    obtain ⟨f, hf⟩ := pc_check hA (by omega)
    have hf' : ∀ G, callL E (.f 28) [.agg [.int .i64 n.N, .int .i64 n.S, .int .i64 n.T, a]] (H ++ (Blk.cells [.int .i64 n.N, .int .i64 n.S, .int .i64 n.T, a] .ex :: .cells [.int .i64 0, .int .i64 0, .int .i64 0, .nils] .ex :: G)) = some (.int .i64 (chk n), H ++ (Blk.cells [.int .i64 n.N, .int .i64 n.S, .int .i64 n.T, a] .ex :: .cells [.int .i64 0, .int .i64 0, .int .i64 0, .nils] .ex :: (G ++ f G))) := fun G => by
      have := hf G
      simp only [List.append_assoc, List.cons_append, List.nil_append] at this
      exact this
    refine wa_sr ⟨_, by simp -implicitDefEqProofs [hf']; rfl, ?_⟩
    refine wa_if (t := true) (by simp [hc0]) (fun _ => ?_) (fun h => by cases h)
    refine wa_sr ⟨_, by simp -implicitDefEqProofs [fillc]; rfl, ?_⟩
    exact wa_rt ⟨by simp, _, by simp; rfl, rfl, _, by simp; rfl⟩
  obtain ⟨v, H', h1, rfl, h2⟩ := key
  exact ⟨H', h1, h2⟩

theorem chk_zero {n : Net} (h : chk n = 0) : okN n = true ∧ okM n = true ∧ okE n = true ∧ (∀ x, x ∈ n.arcs → vtx n x.src = true ∧ vtx n x.dst = true) ∧ (∀ x, x ∈ n.arcs → 0 ≤ x.cap) ∧ sumOk n.arcs = true := by
  unfold chk at h
  repeat' split at h
  all_goals first | (exfalso; revert h; decide) | skip
  rename_i h1 h2 h3 h4 h5 h6
  refine ⟨by simpa using h1, by simpa using h2, by simpa using h3, ?_, ?_, by simpa using h6⟩
  · have := h4
    simp only [Bool.not_eq_false, List.all_eq_true] at this
    exact fun x hx => by simpa using this x hx
  · have := h5
    simp only [Bool.not_eq_false, List.all_eq_true] at this
    exact fun x hx => by simpa using this x hx
theorem chk_of {n : Net} (h1 : okN n = true) (h2 : okM n = true) (h3 : okE n = true) (h4 : ∀ x, x ∈ n.arcs → vtx n x.src = true ∧ vtx n x.dst = true) (h5 : ∀ x, x ∈ n.arcs → 0 ≤ x.cap) (h6 : sumOk n.arcs = true) : chk n = 0 := by
  have e4 : (n.arcs.all fun x => vtx n x.src && vtx n x.dst) = true := by rw [List.all_eq_true]; exact fun x hx => by simpa using h4 x hx
  have e5 : (n.arcs.all fun x => decide (0 ≤ x.cap)) = true := by rw [List.all_eq_true]; exact fun x hx => by simpa using h5 x hx
  unfold chk
  rw [h1, h2, h3, e4, e5, h6]; rfl
theorem capS_take (l : List Ar.Arc) (h : ∀ x, x ∈ l → 0 ≤ x.cap) (i : Nat) (hi : i < l.length) : capS (l.take i) + l[i].cap ≤ capS l := by
  have e : l = l.take i ++ (l[i] :: l.drop (i + 1)) := by rw [← List.drop_eq_getElem_cons hi, List.take_append_drop]
  have e2 : capS l = capS (l.take i) + (l[i].cap + capS (l.drop (i + 1))) := by
    conv => lhs; rw [e]
    rw [capS_append, capS_cons]
  have := capS_nonneg (l.drop (i + 1)) fun x hx => h x (List.mem_of_mem_drop hx)
  omega
/-- What a net that is right is joined to is right. -/
theorem join_bounds {n : Net} (h : chk n = 0) : ∀ i, ∀ hi : i < n.arcs.length, ∀ p, ∀ hp : p < (joinL (n.arcs.take i)).1.length, 0 ≤ ((joinL (n.arcs.take i)).1[p]).cap ∧ 0 ≤ n.arcs[i].cap ∧ ((joinL (n.arcs.take i)).1[p]).cap + n.arcs[i].cap ≤ big := fun i hi p hp => by
  obtain ⟨_, _, _, _, h5, h6⟩ := chk_zero h
  have hj := ji_take n.arcs i (by omega)
  have hpos : ∀ b, b ∈ n.arcs.take i → 0 ≤ b.cap := fun b hb => h5 b (List.mem_of_mem_take hb)
  have h7 := hj.pos hpos
  have h8 := cap_le _ h7 _ (List.getElem_mem hp)
  have h9 := hj.sum hpos
  have h10 := capS_take n.arcs h5 i hi
  have h11 := ((sumOk_iff _).1 h6).2
  exact ⟨h7 _ (List.getElem_mem hp), h5 _ (List.getElem_mem hi), by omega⟩
theorem chk_join {n : Net} (h : chk n = 0) : chk (joinN n) = 0 := by
  obtain ⟨h1, h2, h3, h4, h5, h6⟩ := chk_zero h
  have hj := ji_all n.arcs
  refine chk_of h1 ?_ h3 (fun x hx => ?_) (hj.pos h5) ((sumOk_iff _).2 ⟨hj.pos h5, ?_⟩)
  · rw [okM_iff] at h2 ⊢
    have := hj.le
    show (joinL n.arcs).1.length ≤ 16384
    omega
  · obtain ⟨b, hb, e1, e2⟩ := hj.src x hx
    have := h4 b hb
    rw [e1, e2] at this
    exact this
  · have := hj.sum h5
    have := ((sumOk_iff _).1 h6).2
    show capS (joinL n.arcs).1 ≤ big
    omega
/-- Joined again it is the same. -/
theorem join_join (n : Net) : joinN (joinN n) = joinN n ∧ (joinL (joinN n).arcs).2 = (List.range (joinN n).arcs.length).map fun j : Nat => (j : Int) := by
  have hj := ji_all n.arcs
  have h := join_id (l := (joinN n).arcs) hj.nd hj.nl (joinN n).arcs.length (Nat.le_refl _)
  rw [List.take_length] at h
  refine ⟨?_, by rw [h]⟩
  unfold joinN at h ⊢
  rw [h]
end Go.Proofs.Ytpojdgeginigjaa
/- What is left of joined arcs, as their parts are taken off. -/
set_option linter.unusedSimpArgs false
set_option linter.unusedVariables false
namespace Go.Proofs.Ytpojdgeginigjaa
open Go Go.Ar

theorem partS_nonneg : ∀ (l : List Ar.Arc) (r : List Int) (k : Int), (∀ x, x ∈ l → 0 ≤ x.cap) → 0 ≤ partS l r k
  | [], _, _, _ => by simp [partS]
  | _ :: _, [], _, _ => by simp [partS]
  | a :: l, j :: r, k, h => by
    have h1 := h a (by simp)
    have h2 := partS_nonneg l r k fun x hx => h x (by simp [hx])
    simp only [partS]
    split <;> omega
theorem partS_take_le : ∀ (l : List Ar.Arc) (r : List Int) (k : Int) (i : Nat), (∀ x, x ∈ l → 0 ≤ x.cap) → partS (l.take i) (r.take i) k ≤ partS l r k
  | [], _, _, _, _ => by simp [partS]
  | _ :: _, [], _, i, _ => by cases i <;> simp [partS]
  | a :: l, j :: r, k, 0, h => by
    have := partS_nonneg (a :: l) (j :: r) k h
    simpa [partS] using this
  | a :: l, j :: r, k, i + 1, h => by
    have := partS_take_le l r k i fun x hx => h x (by simp [hx])
    simp only [List.take_succ_cons, partS]
    omega
theorem partS_step {l : List Ar.Arc} {r : List Int} {i : Nat} (hi : i < l.length) (hl : r.length = l.length) (k : Int) : partS (l.take (i + 1)) (r.take (i + 1)) k = partS (l.take i) (r.take i) k + if r.getD i 0 = k then l[i].cap else 0 := by
  have e1 : l.take (i + 1) = l.take i ++ [l[i]] := by rw [List.take_add_one, List.getElem?_eq_getElem hi]; rfl
  have hr : i < r.length := by omega
  have e2 : r.take (i + 1) = r.take i ++ [r.getD i 0] := by rw [List.take_add_one, List.getElem?_eq_getElem hr, List.getD_eq_getElem?_getD, List.getElem?_eq_getElem hr]; rfl
  rw [e1, e2, partS_snoc _ _ _ _ _ (by simp; omega)]
def leftL (l out : List Ar.Arc) (r : List Int) (i : Nat) : List Ar.Arc := out.mapIdx fun k x => ⟨x.src, x.dst, x.cap - partS (l.take i) (r.take i) k⟩
theorem leftL_length (l out : List Ar.Arc) (r : List Int) (i : Nat) : (leftL l out r i).length = out.length := by simp [leftL]
theorem leftL_get {l out : List Ar.Arc} {r : List Int} {i k : Nat} (hk : k < (leftL l out r i).length) : (leftL l out r i)[k] = ⟨(out[k]'(by simpa [leftL] using hk)).src, (out[k]'(by simpa [leftL] using hk)).dst, (out[k]'(by simpa [leftL] using hk)).cap - partS (l.take i) (r.take i) k⟩ := by simp [leftL]
theorem leftL_zero (l out : List Ar.Arc) (r : List Int) : leftL l out r 0 = out := by
  refine List.ext_getElem (leftL_length _ _ _ _) fun k h1 h2 => ?_
  rw [leftL_get]; simp [partS]
theorem leftL_neg {l out : List Ar.Arc} {r : List Int} {i : Nat} (hi : i < l.length) (hl : r.length = l.length) (hn : r.getD i 0 < 0) : leftL l out r (i + 1) = leftL l out r i := by
  refine List.ext_getElem (by simp [leftL]) fun k h1 h2 => ?_
  rw [leftL_get, leftL_get, partS_step hi hl, if_neg (by omega)]; simp
theorem leftL_step {l out : List Ar.Arc} {r : List Int} {i k : Nat} (hi : i < l.length) (hl : r.length = l.length) (hk : k < (leftL l out r i).length) (hr : r.getD i 0 = k) :
    leftL l out r (i + 1) = (leftL l out r i).set k ⟨(leftL l out r i)[k].src, (leftL l out r i)[k].dst, (leftL l out r i)[k].cap - l[i].cap⟩ := by
  refine List.ext_getElem (by simp [leftL]) fun j h1 h2 => ?_
  have hj : j < (leftL l out r i).length := by simpa [leftL] using h1
  rw [List.getElem_set, leftL_get, partS_step hi hl, hr]
  by_cases e : k = j
  · subst e
    rw [if_pos rfl, if_pos rfl, leftL_get hk]
    simp only [Ar.Arc.mk.injEq, true_and]
    omega
  · rw [if_neg e, if_neg (by omega), leftL_get hj]; simp
theorem leftL_bounds {l out : List Ar.Arc} {r : List Int} {i k : Nat} (h : JI l out r) (hp : ∀ x, x ∈ l → 0 ≤ x.cap) (hk : k < (leftL l out r i).length) : 0 ≤ (leftL l out r i)[k].cap ∧ (leftL l out r i)[k].cap ≤ capS l := by
  have hk' : k < out.length := by simpa [leftL] using hk
  rw [leftL_get hk]
  have h1 := h.cap k hk'
  have h2 := partS_take_le l r k i hp
  have h3 := partS_nonneg (l.take i) (r.take i) k fun x hx => hp x (List.mem_of_mem_take hx)
  have h4 := cap_le out (h.pos hp) _ (List.getElem_mem hk')
  have h5 := h.sum hp
  simp only
  omega
theorem leftL_full {l out : List Ar.Arc} {r : List Int} (h : JI l out r) {k : Nat} (hk : k < (leftL l out r l.length).length) : (leftL l out r l.length)[k].cap = 0 := by
  have hk' : k < out.length := by simpa [leftL] using hk
  rw [leftL_get hk]
  have h1 := h.cap k hk'
  have e1 : l.take l.length = l := List.take_length
  have e2 : r.take l.length = r := by rw [← h.len]; exact List.take_length
  show out[k].cap - partS (l.take l.length) (r.take l.length) k = 0
  have e3 : partS (l.take l.length) (r.take l.length) k = partS l r k := by rw [e1, e2]
  omega
end Go.Proofs.Ytpojdgeginigjaa
/- NetJoins: the walk. -/
set_option linter.unusedSimpArgs false
set_option linter.unusedVariables false
namespace Go.Proofs.Ytpojdgeginigjaa
open Go Go.Ar
set_option maxRecDepth 100000

theorem fold_max_le : ∀ (l : List Int) (b : Int), b ≤ l.foldl max b
  | [], b => Int.le_refl _
  | q :: l, b => by have := fold_max_le l (max b q); simp only [List.foldl_cons]; omega
theorem topOf_take_le (r : List Int) (i : Nat) : topOf (r.take i) ≤ topOf r := by
  have e : topOf r = (r.drop i).foldl max (topOf (r.take i)) := by
    unfold topOf
    rw [← List.foldl_append, List.take_append_drop]
  rw [e]; exact fold_max_le _ _

/-- Ends that were met, each once. -/
def mapO (l : List Ar.Arc) : List (V × V) := l.map fun a => (keyA a, .int .i64 1)
theorem findk_mapO (a : Ar.Arc) : ∀ (l : List Ar.Arc) (i : Nat), (∀ x, x ∈ l → ends x a = false) → findk (keyA a) (mapO l) i = some none
  | [], _, _ => rfl
  | x :: l, i, h => by
    have hk : keyEq (keyA a) (keyA x) = some (a.src == x.src && a.dst == x.dst) := by simp [keyEq, keyA]
    have hx := h x (by simp)
    have : (a.src == x.src && a.dst == x.dst) = false := by
      refine Bool.eq_false_iff.2 fun h' => ?_
      simp at h'
      rw [ends_iff.2 ⟨h'.1.symm, h'.2.symm⟩] at hx; cases hx
    have ih := findk_mapO a l (i + 1) fun y hy => h y (by simp [hy])
    unfold mapO at ih ⊢
    simp only [List.map_cons, findk, hk, this]
    exact ih
theorem findk_last (a : Ar.Arc) (v : V) : ∀ (l : List Ar.Arc) (i : Nat), (∀ x, x ∈ l → ends x a = false) → findk (keyA a) (mapO l ++ [(keyA a, v)]) i = some (some (i + l.length, v))
  | [], i, _ => by
    have hk : keyEq (keyA a) (keyA a) = some true := by simp [keyEq, keyA]
    simp [mapO, findk, hk]
  | x :: l, i, h => by
    have hk : keyEq (keyA a) (keyA x) = some (a.src == x.src && a.dst == x.dst) := by simp [keyEq, keyA]
    have hx := h x (by simp)
    have : (a.src == x.src && a.dst == x.dst) = false := by
      refine Bool.eq_false_iff.2 fun h' => ?_
      simp at h'
      rw [ends_iff.2 ⟨h'.1.symm, h'.2.symm⟩] at hx; cases hx
    have ih := findk_last a v l (i + 1) fun y hy => h y (by simp [hy])
    unfold mapO at ih ⊢
    simp only [List.map_cons, List.cons_append, findk, hk, this]
    rw [ih]; simp; omega

set_option maxHeartbeats 8000000 in
theorem joins_law {H : Heap} {n : Net} {a : V} (hin : NetIn H n a) :
    ∃ v H', callL E (.f 6) [NV n a] H = some (v, H') ∧ v = .bool true := by
  refine call_E rfl nc6 rfl ?_
  unfold gc6
  have h := hin.al
  have hl : lenOf a = some n.arcs.length := Rw.len h
  unfold NV
  refine wa_sr ⟨_, by simp [len_cells hl]; rfl, ?_⟩
  refine wa_sr ⟨_, by simp [hl]; rfl, ?_⟩
  by_cases hbig : 200 < n.arcs.length
  · refine wa_if (t := true) (by simp; omega) (fun _ => ?_) (fun h => by cases h)
    refine wa_sr ⟨_, by simp [call_yes (k := 26) rfl]; rfl, ?_⟩
    exact wa_rt ⟨by simp, _, by simp; rfl, rfl⟩
  refine wa_if (t := false) (by simp; omega) (fun h => by cases h) (fun _ => ?_)
  have hA := h.app [nbox n a]
  have r1 : ∀ G, rdn (H ++ [nbox n a] ++ G) H.length 0 4 = some [.int .i64 n.N, .int .i64 n.S, .int .i64 n.T, a] := fun G => by simp [nbox]
  have r1i : ∀ G i, rd (H ++ [nbox n a] ++ G) H.length i = [V.int .i64 n.N, .int .i64 n.S, .int .i64 n.T, a][i]? := fun G i => by simp [nbox]
  have hk1 : H.length < (H ++ [nbox n a]).length := by simp
  refine wa_rg [(1, .ptr H.length 0)] (by simp [Rg]) ?_
  change ∀ τ', Rg τ' [(1, .ptr H.length 0)] → WP E _ ⟨τ', H ++ [nbox n a]⟩ _
  generalize H ++ [nbox n a] = HA at *
  generalize H.length = k1 at *
  rintro τ ⟨t1, -⟩
  dsimp only at t1
  have r1e := r1 []
  rw [List.append_nil] at r1e
  obtain ⟨f0, g0⟩ := pc_check hA (by omega)
  unfold NV at g0
  by_cases hc0 : chk n = 0
  case neg =>
    obtain ⟨H1, e1, G1, hG1⟩ := join_bad hA (by omega) hc0
    unfold NV at e1
    refine wa_sr ⟨_, by simp -implicitDefEqProofs [t1, r1e, e1]; rfl, ?_⟩
    rw [hG1]
    refine wa_sr ⟨_, by simp -implicitDefEqProofs [t1, r1, g0, List.append_assoc]; rfl, ?_⟩
    refine wa_if (t := true) (by simp [hc0]) (fun _ => ?_) (fun h => by cases h)
    refine wa_sr ⟨_, by simp -implicitDefEqProofs [call_yes (k := 26) rfl]; rfl, ?_⟩
    exact wa_rt ⟨by simp, _, by simp; rfl, rfl⟩
  obtain ⟨x, y, H1, e1, ⟨G1, hG1⟩, e3, e4, e5⟩ := join_ok hA (by omega) hc0 (join_bounds hc0)
  rw [hc0] at g0
  have hji := ji_all n.arcs
  have hxs : x.scalar = true := len_scalar (Rw.len e3.al)
  unfold NV at e1
  refine wa_sr ⟨_, by simp -implicitDefEqProofs [t1, r1e, e1, hxs]; rfl, ?_⟩
  change WP E _ ⟨_, H1 ++ [nbox (joinN n) x]⟩ _
  have hAB : AL (H1 ++ [nbox (joinN n) x]) a n.arcs := by rw [hG1]; exact (hA.app G1).app _
  have hXB : AL (H1 ++ [nbox (joinN n) x]) x (joinN n).arcs := e3.al.app _
  have hYB : IL .i64 (H1 ++ [nbox (joinN n) x]) y (joinL n.arcs).2 := e4.il.app _
  have r1 : ∀ G, rdn (H1 ++ [nbox (joinN n) x] ++ G) k1 0 4 = some [.int .i64 n.N, .int .i64 n.S, .int .i64 n.T, a] := fun G => by rw [hG1, List.append_assoc, List.append_assoc]; exact r1 _
  have r1i : ∀ G i, rd (H1 ++ [nbox (joinN n) x] ++ G) k1 i = [V.int .i64 n.N, .int .i64 n.S, .int .i64 n.T, a][i]? := fun G i => by rw [hG1, List.append_assoc, List.append_assoc]; exact r1i _ _
  have r3 : ∀ G, rdn (H1 ++ [nbox (joinN n) x] ++ G) H1.length 0 4 = some [.int .i64 n.N, .int .i64 n.S, .int .i64 n.T, x] := fun G => by simp [nbox, joinN]
  have r3i : ∀ G i, rd (H1 ++ [nbox (joinN n) x] ++ G) H1.length i = [V.int .i64 n.N, .int .i64 n.S, .int .i64 n.T, x][i]? := fun G i => by simp [nbox, joinN]
  have hYl : lenOf y = some n.arcs.length := by rw [Rw.len hYB, hji.len]
  have hXl : lenOf x = some (joinN n).arcs.length := Rw.len hXB
  have hxsl := e3.sl
  refine wa_rg [(1, .ptr k1 0), (3, .ptr H1.length 0), (4, y)] (by simp [Rg, t1]) ?_
  clear t1 r1e g0 τ
  rintro τ ⟨t1, t3, t4, -⟩
  dsimp only at t1 t3 t4
  generalize H1 ++ [nbox (joinN n) x] = HB at *
  generalize H1.length = k3 at *
  have hjle : (joinN n).arcs.length ≤ n.arcs.length := hji.le
  obtain ⟨f0, g0⟩ := pc_check hAB (by omega)
  obtain ⟨f1, g1⟩ := pc_check hXB (by omega)
  rw [hc0] at g0
  rw [chk_join hc0] at g1
  unfold NV at g0 g1
  have g1' : ∀ G, callL E (.f 28) [.agg [.int .i64 n.N, .int .i64 n.S, .int .i64 n.T, x]] (HB ++ G) = some (.int .i64 0, HB ++ (G ++ f1 G)) := g1
  have r1e := r1 []
  have g0e := g0 []
  rw [List.append_nil] at r1e g0e
  rw [List.nil_append] at g0e
  refine wa_sr ⟨_, by simp -implicitDefEqProofs [t1, r1e, g0e]; rfl, ?_⟩
  refine wa_if (t := false) (by simp) (fun h => by cases h) (fun _ => ?_)
  refine wa_sr ⟨_, by simp -implicitDefEqProofs [t1, t3, t4, r3, r3i, r1i, g1', hYl, hl]; rfl, ?_⟩
  refine wa_if (t := false) (by simp) (fun h => by cases h) (fun _ => ?_)
  refine wa_rg [(1, .ptr k1 0), (3, .ptr k3 0), (4, y)] (by simp [Rg, t1, t3, t4]) ?_
  clear t1 t3 t4 r1e g0e τ
  rintro τ ⟨t1, t3, t4, -⟩
  dsimp only at t1 t3 t4
  generalize f0 [] ++ f1 (f0 []) = G2
  have hAC := hAB.app G2
  have hXC := hXB.app G2
  have hYC := hYB.app G2
  have r1 : ∀ G, rdn (HB ++ G2 ++ G) k1 0 4 = some [.int .i64 n.N, .int .i64 n.S, .int .i64 n.T, a] := fun G => by rw [List.append_assoc]; exact r1 _
  have r1i : ∀ G i, rd (HB ++ G2 ++ G) k1 i = [V.int .i64 n.N, .int .i64 n.S, .int .i64 n.T, a][i]? := fun G i => by rw [List.append_assoc]; exact r1i _ _
  have r3 : ∀ G, rdn (HB ++ G2 ++ G) k3 0 4 = some [.int .i64 n.N, .int .i64 n.S, .int .i64 n.T, x] := fun G => by rw [List.append_assoc]; exact r3 _
  have r3i : ∀ G i, rd (HB ++ G2 ++ G) k3 i = [V.int .i64 n.N, .int .i64 n.S, .int .i64 n.T, x][i]? := fun G i => by rw [List.append_assoc]; exact r3i _ _
  clear g0 g1 g1'
  generalize HB ++ G2 = HC at *
  -- the ends that were met
  refine wa_sr ⟨_, by simp; rfl, ?_⟩
  refine wa_sr ⟨_, by simp -implicitDefEqProofs [t3, r3i, hXl]; rfl, ?_⟩
  have hp0 := (Hp.refl HC).a (.mp [])
  generalize hHD : HC ++ [Blk.mp []] = HD at *
  generalize hkm : HC.length = km at *
  refine wa_cut (fun s => Hp HC s.H [] ∧ Rg s.τ [(1, .ptr k1 0), (3, .ptr k3 0), (4, y)]) ?_ ?_
  · refine wa_for (n := (joinN n).arcs.length) (fun i (_ : Unit) => [(1, .ptr k1 0), (3, .ptr k3 0), (4, y), (5, .map km), (83, x)]) (fun i _ H' => Hp HC H' [(km, .mp (mapO ((joinN n).arcs.take i)))]) ()
      (by decide) (fun i hi => w64 (by omega) (by omega)) (by simp) (by simp) (by simp [Rg, t1, t3, t4]) (by simpa [mapO] using hp0) (by simp) ?_ ?_
    · clear t1 t3 t4 τ
      rintro i _ τ H3 hi t85 t84 ⟨t1, t3, t4, t5, t83, -⟩ hP
      dsimp only [ev] at *
      obtain ⟨ka, o, cc, hae, _, _, hrd⟩ := AL.at (hP.rw hXC : AL H3 x (joinN n).arcs) hi
      have hnew : ∀ z, z ∈ (joinN n).arcs.take i → ends z (joinN n).arcs[i] = false := fun z hz => by
        obtain ⟨j, hj, rfl⟩ := List.mem_iff_getElem.1 hz
        simp only [List.length_take] at hj
        rw [List.getElem_take]
        refine Bool.eq_false_iff.2 fun h' => ?_
        have := hji.nd j i (by show j < (joinN n).arcs.length; omega) hi h'
        omega
      have hnl := hji.nl _ (List.getElem_mem hi : (joinN n).arcs[i] ∈ (joinN n).arcs)
      have htk : mapO ((joinN n).arcs.take (i + 1)) = mapO ((joinN n).arcs.take i) ++ [(keyA (joinN n).arcs[i], .int .i64 1)] := by
        rw [List.take_add_one, List.getElem?_eq_getElem hi]; simp only [mapO, Option.toList, List.map_append, List.map_cons, List.map_nil]
      have hlt : (mapO ((joinN n).arcs.take i)).length = i := by simp [mapO]; omega
      have hfk := findk_mapO (joinN n).arcs[i] _ 0 hnew
      have hfl := findk_last (joinN n).arcs[i] (.int .i64 1) _ 0 hnew
      rw [htk]
      generalize (joinN n).arcs[i] = ar at *
      generalize mapO ((joinN n).arcs.take i) = es at *
      unfold Arc.cells at hrd
      refine wa_sr ⟨_, by simp -implicitDefEqProofs [t83, t85, hae, hi, hrd]; rfl, ?_⟩
      have hP4 := (hP.a (.cells ar.cells .ex)).tl
      have k7 : ∀ o, rd (H3 ++ [.cells ar.cells .ex]) H3.length o = ar.cells[o]? := fun o => by simp
      have hk7 : H3.length < (H3 ++ [Blk.cells ar.cells .ex]).length := by simp
      change WP E _ ⟨_, H3 ++ [.cells ar.cells .ex]⟩ _
      generalize H3 ++ [Blk.cells ar.cells .ex] = H4 at *
      have hkml := hP.lt 0 rfl
      generalize hk7e : H3.length = k7n at *
      have p0 : rd H4 k7n 0 = some (.int .i64 ar.src) := k7 0
      have p1 : rd H4 k7n 1 = some (.int .i64 ar.dst) := k7 1
      have hm4 := hP4.r0
      dsimp only at hm4
      have hmo : mapOf H4 (.map km) = some es := by simp [mapOf, mpAt, hm4]
      have hma : mpAt H4 km = some es := by simp [mpAt, hm4]
      have hkf : keyf .pair (.agg [.int .i64 ar.src, .int .i64 ar.dst]) es = some none := hfk
      have hw1 : IntKind.i64.wrap (1 : Int) = 1 := by decide
      obtain ⟨H5, hH5, m5, hP5, o5⟩ : ∃ X, H4.set km (.mp (es ++ [(.agg [.int .i64 ar.src, .int .i64 ar.dst], .int .i64 0)])) = X ∧ X[km]? = some (.mp (es ++ [(.agg [.int .i64 ar.src, .int .i64 ar.dst], .int .i64 0)])) ∧ Hp HC X [(km, .mp (es ++ [(.agg [.int .i64 ar.src, .int .i64 ar.dst], .int .i64 0)]))] ∧ ∀ j, j ≠ km → X[j]? = H4[j]? :=
        ⟨_, rfl, (hP4.w0 _).r0, hP4.w0 _, fun j hj => List.getElem?_set_ne (fun e => hj e.symm)⟩
      have hma5 : mpAt H5 km = some (es ++ [(.agg [.int .i64 ar.src, .int .i64 ar.dst], .int .i64 0)]) := by simp [mpAt, m5]
      have hes : (es ++ [(V.agg [.int .i64 ar.src, .int .i64 ar.dst], V.int .i64 0)])[es.length]? = some (.agg [.int .i64 ar.src, .int .i64 ar.dst], .int .i64 0) := by simp
      have hset : (es ++ [(V.agg [.int .i64 ar.src, .int .i64 ar.dst], V.int .i64 0)]).set es.length (.agg [.int .i64 ar.src, .int .i64 ar.dst], .int .i64 1) = es ++ [(keyA ar, .int .i64 1)] := by simp [keyA]
      obtain ⟨H6, hH6, m6, hP6, o6⟩ : ∃ X, H5.set km (.mp (es ++ [(keyA ar, .int .i64 1)])) = X ∧ X[km]? = some (.mp (es ++ [(keyA ar, .int .i64 1)])) ∧ Hp HC X [(km, .mp (es ++ [(keyA ar, .int .i64 1)]))] ∧ ∀ j, j ≠ km → X[j]? = H5[j]? :=
        ⟨_, rfl, (hP5.w0 _).r0, hP5.w0 _, fun j hj => List.getElem?_set_ne (fun e => hj e.symm)⟩
      refine wa_dr rfl rfl ⟨_, by simp -implicitDefEqProofs [t5, p0, p1, fillc, hmo, hma, hkf, hw1, hH5, hma5, hes, hset, hH6]; rfl, ?_⟩
      have s0 : rd H6 k7n 0 = some (.int .i64 ar.src) := by simp only [rd]; rw [o6 k7n (by omega), o5 k7n (by omega)]; exact p0
      have s1 : rd H6 k7n 1 = some (.int .i64 ar.dst) := by simp only [rd]; rw [o6 k7n (by omega), o5 k7n (by omega)]; exact p1
      have hmo6 : mapOf H6 (.map km) = some (es ++ [(keyA ar, .int .i64 1)]) := by simp [mapOf, mpAt, m6]
      have hkf6 : keyf .pair (.agg [.int .i64 ar.src, .int .i64 ar.dst]) (es ++ [(keyA ar, .int .i64 1)]) = some (some (0 + ((joinN n).arcs.take i).length, .int .i64 1)) := hfl
      have hnl' : (ar.src == ar.dst) = false := by simpa using hnl
      refine wa_sr ⟨_, by simp -implicitDefEqProofs [t5, s0, s1, fillc, hmo6, hkf6, hnl']; rfl, ?_⟩
      refine wa_cond (t := false) (by simp) (fun h => by cases h) (fun _ => wa_skip ?_)
      exact ⟨by simp [t85], by simp [t84], (), by simp [Rg, t1, t3, t4, t5, t83, hae], hP6⟩
    · rintro _ τ H3 ⟨t1, t3, t4, t5, t83, -⟩ hP
      exact ⟨hP.tl, by simp [Rg, t1, t3, t4]⟩
  clear t1 t3 t4 τ hp0 hHD hkm
  rintro ⟨τ, HE⟩ ⟨hPE, t1, t3, t4, -⟩
  dsimp only at hPE t1 t3 t4
  obtain ⟨GE, hGE⟩ := hPE.eq
  have hXE := hPE.rw hXC
  have hYE := hPE.il hYC
  have hAE := hPE.rw hAC
  have r1 : ∀ G, rdn (HE ++ G) k1 0 4 = some [.int .i64 n.N, .int .i64 n.S, .int .i64 n.T, a] := fun G => by rw [hGE, List.append_assoc]; exact r1 _
  have r1i : ∀ G i, rd (HE ++ G) k1 i = [V.int .i64 n.N, .int .i64 n.S, .int .i64 n.T, a][i]? := fun G i => by rw [hGE, List.append_assoc]; exact r1i _ _
  have r3 : ∀ G, rdn (HE ++ G) k3 0 4 = some [.int .i64 n.N, .int .i64 n.S, .int .i64 n.T, x] := fun G => by rw [hGE, List.append_assoc]; exact r3 _
  have r3i : ∀ G i, rd (HE ++ G) k3 i = [V.int .i64 n.N, .int .i64 n.S, .int .i64 n.T, x][i]? := fun G i => by rw [hGE, List.append_assoc]; exact r3i _ _
  clear hPE hGE GE
  -- what is left
  obtain ⟨z, H1', e7, ⟨G7, hG7⟩, e8⟩ := copy_ok (n := joinN n) hXE hxsl (by omega)
  have hzs : z.scalar = true := len_scalar (Rw.len e8.al)
  have e7' : callL E (.f 27) [.agg [.int .i64 n.N, .int .i64 n.S, .int .i64 n.T, x]] HE = some (.agg [.int .i64 n.N, .int .i64 n.S, .int .i64 n.T, z], H1') := e7
  have r3e := r3 []
  rw [List.append_nil] at r3e
  refine wa_sr ⟨_, by simp -implicitDefEqProofs [t3, r3e, e7', hzs]; rfl, ?_⟩
  change WP E _ ⟨_, H1' ++ [nbox (joinN n) z]⟩ _
  have hm0 : MB HE.length (H1' ++ [nbox (joinN n) z]) H1'.length (joinN n) z := ⟨by rw [hG7]; simp, by simp, (e8.app _), fun k hk => by have := Rw.lt e8.al k hk; omega⟩
  have hpE0 : Hp HE (H1' ++ [nbox (joinN n) z]) [] := by rw [hG7, List.append_assoc]; exact Hp.app _ _
  generalize H1' ++ [nbox (joinN n) z] = HF at *
  generalize H1'.length = k8 at *
  refine wa_sr ⟨_, by simp; rfl, ?_⟩
  refine wa_sr ⟨_, by simp -implicitDefEqProofs [t4, hYl]; rfl, ?_⟩
  obtain ⟨_, _, _, _, hpos, hsum⟩ := chk_zero hc0
  have hsumb := ((sumOk_iff _).1 hsum).2
  unfold big at hsumb
  generalize hrr : (joinL n.arcs).2 = r at *
  have hrl := hji.len
  refine wa_cut (fun s => Hp HE s.H [] ∧ MB HE.length s.H k8 { joinN n with arcs := leftL n.arcs (joinN n).arcs r n.arcs.length } z ∧ Rg s.τ [(1, .ptr k1 0), (3, .ptr k3 0), (4, y), (8, .ptr k8 0)]) ?_ ?_
  · refine wa_for (n := n.arcs.length) (fun i (last : Int) => [(1, .ptr k1 0), (3, .ptr k3 0), (4, y), (8, .ptr k8 0), (9, .int .i64 last), (117, y)]) (fun i last H' => last = topOf (r.take i) ∧ Hp HE H' [] ∧ MB HE.length H' k8 { joinN n with arcs := leftL n.arcs (joinN n).arcs r i } z) (-1)
      (by decide) (fun i hi => w64 (by omega) (by omega)) (by simp) (by simp) (by simp [Rg, t1, t3, t4]) ⟨rfl, hpE0, by rw [leftL_zero]; exact hm0⟩ (by simp) ?_ ?_
    · clear t1 t3 t4 τ
      rintro i last τ H3 hi t119 t118 ⟨t1, t3, t4, t8, t9, t117, -⟩ ⟨hlast, hP, hM⟩
      dsimp only [ev] at *
      have hil : i < r.length := by omega
      obtain ⟨ky, oy, cy', hye, hry⟩ := (hP.il hYE).at hil
      obtain ⟨ka, oa, ca, hae, _, hra, _⟩ := AL.at (hP.rw hAE : AL H3 a n.arcs) hi
      have hprt := hji.prt i hi
      have hstp := hji.stp i hi
      have hgd : r.getD i 0 = r[i]?.getD 0 := List.getD_eq_getElem?_getD
      obtain ⟨G3, hG3⟩ := hP.eq
      have r1i3 : ∀ G, rd (H3 ++ G) k1 3 = some a := fun G => by rw [hG3, List.append_assoc]; exact r1i _ 3
      have r3i3 : ∀ G, rd (H3 ++ G) k3 3 = some x := fun G => by rw [hG3, List.append_assoc]; exact r3i _ 3
      refine wa_sr ⟨_, by simp -implicitDefEqProofs [t117, t119, hye, hil, hry, hrl, hi]; rfl, ?_⟩
      have hra' : ∀ G, rdn (H3 ++ G) ka (oa + i * 3) 3 = some [.int .i64 n.arcs[i].src, .int .i64 n.arcs[i].dst, .int .i64 n.arcs[i].cap] := hra
      have r1e3 := r1i3 []
      have hrae := hra' []
      rw [List.append_nil] at r1e3 hrae
      have hM4 := hM.app [.cells n.arcs[i].cells .ex]
      have hP4 := Hp_app hP [.cells n.arcs[i].cells .ex]
      refine wa_sr ⟨_, by simp -implicitDefEqProofs [t1, r1e3, hae, hi, hrae]; rfl, ?_⟩
      have k12 : ∀ o, rd (H3 ++ [.cells n.arcs[i].cells .ex]) H3.length o = n.arcs[i].cells[o]? := fun o => by simp
      have r1i4 := r1i3 [.cells n.arcs[i].cells .ex]
      have r3i4 := r3i3 [.cells n.arcs[i].cells .ex]
      change WP E _ ⟨_, H3 ++ [.cells n.arcs[i].cells .ex]⟩ _
      generalize H3 ++ [Blk.cells n.arcs[i].cells .ex] = H4 at *
      generalize H3.length = k12n at *
      have p0 : rd H4 k12n 0 = some (.int .i64 n.arcs[i].src) := k12 0
      have p1 : rd H4 k12n 1 = some (.int .i64 n.arcs[i].dst) := k12 1
      have p2 : rd H4 k12n 2 = some (.int .i64 n.arcs[i].cap) := k12 2
      have htop : topOf (r.take (i + 1)) = max (topOf (r.take i)) (r.getD i 0) := by
        rw [List.take_add_one, List.getElem?_eq_getElem hil, List.getD_eq_getElem?_getD, List.getElem?_eq_getElem hil]
        exact topOf_snoc _ _
      have htopb : -1 ≤ topOf (r.take i) := by
        have : ∀ (l : List Int) (b : Int), b ≤ l.foldl max b := by
          intro l
          induction l with
          | nil => intro b; exact Int.le_refl _
          | cons q l ih => intro b; have := ih (max b q); simp only [List.foldl_cons]; omega
        exact this _ _
      refine wa_rg [(1, .ptr k1 0), (3, .ptr k3 0), (4, y), (8, .ptr k8 0), (9, .int .i64 last), (117, y), (119, .int .i64 i), (118, .int .i64 n.arcs.length), (11, .int .i64 (r.getD i 0)), (12, .ptr k12n 0)] (by simp [Rg, t1, t3, t4, t8, t9, t117, t119, t118, hye, hrl, List.getElem?_eq_getElem hil]) ?_
      clear t1 t3 t4 t8 t9 t117 t119 t118 τ
      rintro τ ⟨t1, t3, t4, t8, t9, t117, t119, t118, t11, t12, -⟩
      dsimp only at t1 t3 t4 t8 t9 t117 t119 t118 t11 t12
      have htl := topOf_take_le r i
      have htr : topOf r = ((joinN n).arcs.length : Int) - 1 := hji.top
      have hll : (joinN n).arcs.length ≤ 200 := by omega
      rcases hprt with ⟨hneg, hself⟩ | ⟨hns, k, hk0', hrk, hends⟩
      · have hlneg := leftL_neg (out := (joinN n).arcs) hi hrl (by omega)
        rw [hneg] at htop hstp t11
        have hself' : (n.arcs[i].src == n.arcs[i].dst) = true := by simpa using hself
        have hneg1 : ¬ (((joinN n).arcs.length : Int) ≤ -1) := by omega
        have hwl : IntKind.i64.wrap (last + 1) = last + 1 := w64 (by omega) (by omega)
        have hneg2 : ¬ (last + 1 < -1) := by omega
        refine wa_sr ⟨_, by simp -implicitDefEqProofs [t11, t12, t3, t9, p0, p1, hself', r3i4, hXl, hneg1, hwl, hneg2]; rfl, ?_⟩
        refine wa_if (t := false) (by simp) (fun h => by cases h) (fun _ => ?_)
        have hmx : ¬ (last < -1) := by omega
        refine wa_sr ⟨_, by simp -implicitDefEqProofs [t11, t9, hmx]; rfl, ?_⟩
        refine wa_sr ⟨_, by simp -implicitDefEqProofs [t11]; rfl, ?_⟩
        refine wa_if (t := true) (by simp) (fun _ => wa_ex ?_) (fun h => by cases h)
        exact ⟨by simp [t119], by simp [t118, hrl, hye], last, by simp [Rg, t1, t3, t4, t8, t117], by omega, hP4, by rw [hlneg]; exact hM4⟩
      · have hk : k < (joinN n).arcs.length := hk0'
        have hns' : (n.arcs[i].src == n.arcs[i].dst) = false := by simpa using hns
        have hge1 : ¬ (((joinN n).arcs.length : Int) ≤ (k : Int)) := by omega
        have hwl : IntKind.i64.wrap (last + 1) = last + 1 := w64 (by omega) (by omega)
        rw [hrk] at hstp htop t11
        have hgt : ¬ (last + 1 < (k : Int)) := by omega
        have hk0 : ¬ ((k : Int) < 0) := by omega
        refine wa_sr ⟨_, by simp -implicitDefEqProofs [t11, t12, t3, t9, p0, p1, hns', r3i4, hXl, hge1, hwl, hgt, hk0]; rfl, ?_⟩
        refine wa_if (t := false) (by simp) (fun h => by cases h) (fun _ => ?_)
        refine wa_sr ⟨_, by simp -implicitDefEqProofs [t11, t9]; rfl, ?_⟩
        refine wa_sr ⟨_, by simp -implicitDefEqProofs [t11, hk0]; rfl, ?_⟩
        refine wa_if (t := false) (by simp) (fun h => by cases h) (fun _ => ?_)
        have hmxv : (if last < (k : Int) then (k : Int) else last) = topOf (r.take (i + 1)) := by rw [htop]; split <;> omega
        rw [hmxv]
        refine wa_rg [(1, .ptr k1 0), (3, .ptr k3 0), (4, y), (8, .ptr k8 0), (9, .int .i64 (topOf (r.take (i + 1)))), (117, y), (119, .int .i64 i), (118, .int .i64 n.arcs.length), (11, .int .i64 k), (12, .ptr k12n 0)] (by simp [Rg, t1, t3, t4, t8, t117, t119, t118, t11, t12]) ?_
        clear t1 t3 t4 t8 t9 t117 t119 t118 t11 t12 τ
        rintro τ ⟨t1, t3, t4, t8, t9, t117, t119, t118, t11, t12, -⟩
        dsimp only at t1 t3 t4 t8 t9 t117 t119 t118 t11 t12
        obtain ⟨kx, ox, cx, hxe, _, _, hrx⟩ := AL.at (hP4.rw hXE : AL H4 x (joinN n).arcs) hk
        have x0 : rd H4 kx (ox + k * 3) = some (.int .i64 n.arcs[i].src) := by
          have := rd_of_rdn hrx (j := 0) (by omega)
          rw [← (ends_iff.1 hends).1]; exact this
        have x1 : rd H4 kx (ox + k * 3 + 1) = some (.int .i64 n.arcs[i].dst) := by
          have := rd_of_rdn hrx (j := 1) (by omega)
          rw [← (ends_iff.1 hends).2]; exact this
        refine wa_dr rfl rfl ⟨_, by simp -implicitDefEqProofs [t3, t11, t12, r3i4, hxe, hk, x0, x1, p0, p1]; rfl, ?_⟩
        refine wa_if (t := false) (by simp) (fun h => by cases h) (fun _ => ?_)
        have hkL : k < (leftL n.arcs (joinN n).arcs r i).length := by rw [leftL_length]; exact hk
        obtain ⟨kz, hze, hkzB, hkzl, hrz, hwz⟩ := hM4.arc (i := k) hkL
        have hbd : 0 ≤ ((leftL n.arcs (joinN n).arcs r i)[k]).cap ∧ ((leftL n.arcs (joinN n).arcs r i)[k]).cap ≤ capS n.arcs := leftL_bounds hji hpos hkL
        have hcp := hpos _ (List.getElem_mem hi)
        have hcs := cap_le n.arcs hpos _ (List.getElem_mem hi)
        have hstep := leftL_step (out := (joinN n).arcs) hi hrl hkL hrk
        have hrz2 : rd H4 kz (k * 3 + 2) = some (.int .i64 ((leftL n.arcs (joinN n).arcs r i)[k]).cap) := by
          have := hrz []
          rw [List.append_nil] at this
          exact rd_of_rdn this (j := 2) (by omega)
        generalize hlv : (leftL n.arcs (joinN n).arcs r i)[k] = lv at *
        obtain ⟨H5, w5, l5, hM5, hf5⟩ := hwz 2 (.int .i64 (lv.cap - n.arcs[i].cap)) ⟨lv.src, lv.dst, lv.cap - n.arcs[i].cap⟩ (by omega) rfl rfl
        have hw5 : IntKind.i64.wrap (lv.cap - n.arcs[i].cap) = lv.cap - n.arcs[i].cap := w64 (by omega) (by omega)
        have z3 := hM4.rd3 []
        rw [List.append_nil] at z3
        dsimp only at hze
        refine wa_drl rfl rfl ⟨_, by simp -implicitDefEqProofs [t8, t11, t12, z3, hze, hkL, hrz2, p2, hw5, w5]; rfl, ?_⟩
        refine ⟨by simp [t119], by simp [t118, hrl, hye], topOf (r.take (i + 1)), by simp [Rg, t1, t3, t4, t8, t9, t117], rfl, Hp_frame hP4 l5 hf5 hkzB, by rw [hstep]; exact hM5⟩
    · rintro last τ H3 ⟨t1, t3, t4, t8, t9, t117, -⟩ ⟨hlast, hP, hM⟩
      exact ⟨hP, hM, by simp [Rg, t1, t3, t4, t8]⟩
  clear t1 t3 t4 τ
  rintro ⟨τ, HG⟩ ⟨hPG, hMG, t1, t3, t4, t8, -⟩
  dsimp only at hPG hMG t1 t3 t4 t8
  have z3 := hMG.rd3 []
  rw [List.append_nil] at z3
  have hzl : lenOf z = some (joinN n).arcs.length := by
    have := Rw.len hMG.own.al
    dsimp only at this
    rw [leftL_length] at this; exact this
  refine wa_sr ⟨_, by simp -implicitDefEqProofs [t8, z3, hzl]; rfl, ?_⟩
  -- nothing is left
  refine wa_cut (fun s => Hp HG s.H [] ∧ Rg s.τ [(1, .ptr k1 0), (3, .ptr k3 0)]) ?_ ?_
  · refine wa_for (n := (joinN n).arcs.length) (fun i (_ : Unit) => [(1, .ptr k1 0), (3, .ptr k3 0), (188, z)]) (fun i _ H' => Hp HG H' []) ()
      (by decide) (fun i hi => w64 (by omega) (by omega)) (by simp) (by simp) (by simp [Rg, t1, t3]) (Hp.refl HG) (by simp) ?_ ?_
    · clear t1 t3 t4 t8 τ
      rintro i _ τ H3 hi t190 t189 ⟨t1, t3, t188, -⟩ hP
      dsimp only [ev] at *
      have hiL : i < (leftL n.arcs (joinN n).arcs r n.arcs.length).length := by rw [leftL_length]; exact hi
      obtain ⟨kz, oz, cz, hze, _, _, hrz⟩ := AL.at (hP.rw hMG.own.al : AL H3 z (leftL n.arcs (joinN n).arcs r n.arcs.length)) hiL
      have hcap0 := leftL_full hji (k := i) hiL
      rw [leftL_length] at hze
      change ((leftL n.arcs (joinN n).arcs r n.arcs.length)[i]).cap = 0 at hcap0
      generalize (leftL n.arcs (joinN n).arcs r n.arcs.length)[i] = lv at *
      unfold Arc.cells at hrz
      refine wa_sr ⟨_, by simp -implicitDefEqProofs [t188, t190, hze, hi, hrz]; rfl, ?_⟩
      refine wa_sr ⟨_, by simp -implicitDefEqProofs [hcap0]; rfl, ?_⟩
      refine wa_cond (t := false) (by simp) (fun h => by cases h) (fun _ => wa_skip ?_)
      exact ⟨by simp [t190], by simp [t189], (), by simp [Rg, t1, t3, t188, hze], Hp_app hP _⟩
    · rintro _ τ H3 ⟨t1, t3, t188, -⟩ hP
      exact ⟨hP, by simp [Rg, t1, t3]⟩
  clear t1 t3 t4 t8 τ
  rintro ⟨τ, HH⟩ ⟨hPH, t1, t3, -⟩
  dsimp only at hPH t1 t3
  have hPH2 : Hp HE HH [] := hPG.x hPH
  have hXH := hPH2.rw hXE
  obtain ⟨GH, hGH⟩ := hPH2.eq
  have r3 : ∀ G, rdn (HH ++ G) k3 0 4 = some [.int .i64 n.N, .int .i64 n.S, .int .i64 n.T, x] := fun G => by rw [hGH, List.append_assoc]; exact r3 _
  clear hGH hPH hPH2 hPG hMG z3
  -- joined again
  obtain ⟨x2, y2, H2, e2, ⟨G2, hG2⟩, e3, e4, _⟩ := join_ok (n := joinN n) hXH (by omega) (chk_join hc0) (join_bounds (chk_join hc0))
  obtain ⟨hjj, hjr⟩ := join_join n
  rw [hjj] at e2 e3
  rw [hjr] at e4
  have hx2s : x2.scalar = true := len_scalar (Rw.len e3.al)
  have e2' : callL E (.f 40) [.agg [.int .i64 n.N, .int .i64 n.S, .int .i64 n.T, x]] HH = some (.tup [.agg [.int .i64 n.N, .int .i64 n.S, .int .i64 n.T, x2], y2], H2) := e2
  have r3e := r3 []
  rw [List.append_nil] at r3e
  refine wa_sr ⟨_, by simp -implicitDefEqProofs [t3, r3e, e2', hx2s]; rfl, ?_⟩
  change WP E _ ⟨_, H2 ++ [nbox (joinN n) x2]⟩ _
  have hY2 : IL .i64 (H2 ++ [nbox (joinN n) x2]) y2 ((List.range (joinN n).arcs.length).map fun j : Nat => (j : Int)) := e4.il.app _
  have hX2 : AL (H2 ++ [nbox (joinN n) x2]) x2 (joinN n).arcs := e3.al.app _
  have hXX : AL (H2 ++ [nbox (joinN n) x2]) x (joinN n).arcs := by rw [hG2]; exact (AL.app hXH G2).app _
  have hb2 : ∀ G, rdn (H2 ++ [nbox (joinN n) x2] ++ G) H2.length 0 4 = some [.int .i64 n.N, .int .i64 n.S, .int .i64 n.T, x2] := fun G => by simp [nbox, joinN]
  have r3 : ∀ G, rdn (H2 ++ [nbox (joinN n) x2] ++ G) k3 0 4 = some [.int .i64 n.N, .int .i64 n.S, .int .i64 n.T, x] := fun G => by rw [hG2, List.append_assoc, List.append_assoc]; exact r3 _
  have hY2l : lenOf y2 = some (joinN n).arcs.length := by have := Rw.len hY2; simpa using this
  generalize H2 ++ [nbox (joinN n) x2] = HI at *
  generalize H2.length = k15 at *
  refine wa_sr ⟨_, by simp -implicitDefEqProofs [hY2l]; rfl, ?_⟩
  refine wa_cut (fun s => s.H = HI ∧ Rg s.τ [(3, .ptr k3 0), (15, .ptr k15 0)]) ?_ ?_
  · refine wa_for (n := (joinN n).arcs.length) (fun i (_ : Unit) => [(3, .ptr k3 0), (15, .ptr k15 0), (203, y2)]) (fun i _ H' => H' = HI) ()
      (by decide) (fun i hi => w64 (by omega) (by omega)) (by simp) (by simp) (by simp [Rg, t3]) rfl (by simp) ?_ ?_
    · clear t1 t3 τ
      rintro i _ τ H3 hi t205 t204 ⟨t3, t15, t203, -⟩ rfl
      dsimp only [ev] at *
      obtain ⟨ky, oy, cy', hye, hry⟩ := hY2.at (n := i) (by simpa using hi)
      have hgi : ((List.range (joinN n).arcs.length).map fun j : Nat => (j : Int)).getD i 0 = i := by simp [hi]
      rw [hgi] at hry
      simp only [List.length_map, List.length_range] at hye
      refine wa_sr ⟨_, by simp -implicitDefEqProofs [t203, t205, hye, hi, hry]; rfl, ?_⟩
      refine wa_sr ⟨_, by simp -implicitDefEqProofs; rfl, ?_⟩
      refine wa_cond (t := false) (by simp) (fun h => by cases h) (fun _ => wa_skip ?_)
      exact ⟨by simp [t205], by simp [t204], (), by simp [Rg, t3, t15, t203, hye], rfl⟩
    · rintro _ τ H3 ⟨t3, t15, t203, -⟩ hP
      exact ⟨hP, by simp [Rg, t3, t15]⟩
  clear t1 t3 τ
  rintro ⟨τ, H'⟩ ⟨rfl, t3, t15, -⟩
  dsimp only at *
  obtain ⟨fz, hz⟩ := pc_samenet (m := joinN n) (n := joinN n) hX2 hXX (by omega)
  rw [sameB_true ⟨rfl, rfl, rfl, rfl⟩] at hz
  have hz' := hz []
  rw [List.append_nil] at hz'
  have hz2 : callL E (.f 41) [.agg [.int .i64 n.N, .int .i64 n.S, .int .i64 n.T, x2], .agg [.int .i64 n.N, .int .i64 n.S, .int .i64 n.T, x]] H' = some (.bool true, H' ++ ([] ++ fz [])) := hz'
  have hb2e := hb2 []
  have r3e := r3 []
  rw [List.append_nil] at hb2e r3e
  refine wa_sr ⟨_, by simp -implicitDefEqProofs [t3, t15, hb2e, r3e, hz2, call_yes (k := 26) rfl]; rfl, ?_⟩
  exact wa_ret ⟨by simp, _, by simp; rfl, rfl⟩
end Go.Proofs.Ytpojdgeginigjaa
