/- The flat code of functions. -/
import Derived.Test.YtpojdgeginigjaaMC
import Derived.Test.YtpojdgeginigjaaMG
import Derived.Test.YtpojdgeginigjaaProg
import Derived.KernelRfl
set_option linter.unusedSimpArgs false
set_option linter.unusedVariables false
namespace Go.Proofs.Ytpojdgeginigjaa
open Go Go.Ar
set_option maxRecDepth 100000
def gc38 : MC := (.seq (.reg [⟨(.some 2), (.box 4 (.t 0)), .none⟩, ⟨(.some 4), (.mv (.c (.int .i64 0))), .none⟩, ⟨(.some 5), (.mv (.c (.int .i64 0))), .none⟩]) (.seq (.reg [⟨(.some 8), (.load 4 .true (.t 2)), .none⟩, ⟨(.some 9), (.mv (.t 1)), .none⟩, ⟨(.some 10), (.call (.c (.fn 57 [] [])) [(.t 8), (.t 9)]), .none⟩, ⟨(.some 11), (.not (.t 10)), .none⟩]) (.seq (.cond (.t 11) (.seq (.reg [⟨(.some 4), (.mv (.c (.int .i64 0))), .none⟩, ⟨(.some 5), (.mv (.c (.int .i64 20))), .none⟩]) .ret) .skip) (.seq (.reg [⟨(.some 13), (.load 4 .true (.t 2)), .none⟩, ⟨(.some 14), (.mv (.t 1)), .none⟩, ⟨(.some 15), (.call (.c (.fn 54 [] [])) [(.t 13), (.t 14)]), .none⟩, ⟨(.some 12), (.mv (.t 15)), .none⟩, ⟨(.some 16), (.ext (.t 12) 0), .none⟩, ⟨(.some 17), (.ext (.t 12) 1), .none⟩, ⟨(.some 6), (.mv (.t 16)), .none⟩, ⟨(.some 7), (.mv (.t 17)), .none⟩]) (.seq (.reg [⟨(.some 18), (.mv (.t 6)), .none⟩, ⟨(.some 19), (.fadr 2 (.t 2)), .none⟩, ⟨(.some 20), (.load 1 .false (.t 19)), .none⟩, ⟨(.some 21), (.iadr 1 (.t 18) (.t 20)), .none⟩, ⟨(.some 22), (.load 1 .false (.t 21)), .none⟩, ⟨(.some 23), (.mv (.t 7)), .none⟩, ⟨(.some 4), (.mv (.t 22)), .none⟩, ⟨(.some 5), (.mv (.t 23)), .none⟩]) .ret)))))
theorem nc38 : nc Try.prog 38 = some (2, [(.t 4), (.t 5)], gc38) := by kernel_rfl
def gc54 : MC := (.seq (.reg [⟨(.some 2), (.box 4 (.t 0)), .none⟩, ⟨(.some 4), (.mv (.c .nils)), .none⟩, ⟨(.some 5), (.mv (.c (.int .i64 0))), .none⟩]) (.seq (.reg [⟨(.some 9), (.load 4 .true (.t 2)), .none⟩, ⟨(.some 10), (.mv (.t 1)), .none⟩, ⟨(.some 11), (.call (.c (.fn 55 [] [])) [(.t 9), (.t 10)]), .none⟩, ⟨(.some 12), (.not (.t 11)), .none⟩]) (.seq (.cond (.t 12) (.seq (.reg [⟨(.some 4), (.mv (.c .nils)), .none⟩, ⟨(.some 5), (.mv (.c (.int .i64 20))), .none⟩]) .ret) .skip) (.seq (.reg [⟨(.some 13), (.fadr 0 (.t 2)), .none⟩, ⟨(.some 14), (.load 1 .false (.t 13)), .none⟩, ⟨(.some 15), (.mkslice 1 8 [(.int .i64 0)] (.t 14)), .none⟩, ⟨(.some 6), (.mv (.t 15)), .none⟩]) (.seq (.reg [⟨(.some 16), (.fadr 3 (.t 2)), .none⟩, ⟨(.some 17), (.load 1 .false (.t 16)), .none⟩, ⟨(.some 18), (.len (.t 17)), .none⟩, ⟨(.some 19), (.mv (.c (.int .i64 0))), .none⟩]) (.seq (.block 0 (.loop (.seq (.reg [⟨(.some 20), (.bin .lss (.t 19) (.t 18)), .none⟩]) (.seq (.cond (.t 20) .skip (.exit 0)) (.seq (.block 1 (.seq (.reg [⟨(.some 21), (.mv (.t 19)), .none⟩, ⟨(.some 22), (.iadr 3 (.t 17) (.t 19)), .none⟩, ⟨(.some 23), (.load 3 .true (.t 22)), .none⟩, ⟨(.some 8), (.alloc [(.int .i64 0), (.int .i64 0), (.int .i64 0)]), .none⟩, ⟨(.some 7), (.mv (.t 21)), .none⟩, ⟨.none, (.store 3 (.t 8) (.t 23)), .none⟩]) (.seq (.dreg 0 [(.plain, ⟨(.some 24), (.mv (.t 6)), .none⟩), (.plain, ⟨(.some 25), (.fadr 0 (.t 8)), .none⟩), (.plain, ⟨(.some 26), (.load 1 .false (.t 25)), .none⟩), (.plain, ⟨(.some 27), (.iadr 1 (.t 24) (.t 26)), .none⟩), (.plain, ⟨(.some 28), (.load 1 .false (.t 27)), .none⟩), (.plain, ⟨(.some 29), (.mv (.t 1)), .none⟩), (.plain, ⟨(.some 30), (.mv (.t 7)), .none⟩), (.plain, ⟨(.some 31), (.iadr 1 (.t 29) (.t 30)), .none⟩), (.plain, ⟨(.some 32), (.load 1 .false (.t 31)), .none⟩), (.plain, ⟨(.some 33), (.bin .sub (.t 28) (.t 32)), .none⟩), (.plain, ⟨(.some 34), (.iadr 1 (.t 24) (.t 26)), .none⟩), (.plain, ⟨.none, (.store 1 (.t 34) (.t 33)), .none⟩)] []) (.dreg 0 [(.plain, ⟨(.some 35), (.mv (.t 6)), .none⟩), (.plain, ⟨(.some 36), (.fadr 1 (.t 8)), .none⟩), (.plain, ⟨(.some 37), (.load 1 .false (.t 36)), .none⟩), (.plain, ⟨(.some 38), (.iadr 1 (.t 35) (.t 37)), .none⟩), (.plain, ⟨(.some 39), (.load 1 .false (.t 38)), .none⟩), (.plain, ⟨(.some 40), (.mv (.t 1)), .none⟩), (.plain, ⟨(.some 41), (.mv (.t 7)), .none⟩), (.plain, ⟨(.some 42), (.iadr 1 (.t 40) (.t 41)), .none⟩), (.plain, ⟨(.some 43), (.load 1 .false (.t 42)), .none⟩), (.plain, ⟨(.some 44), (.bin .add (.t 39) (.t 43)), .none⟩), (.plain, ⟨(.some 45), (.iadr 1 (.t 35) (.t 37)), .none⟩), (.plain, ⟨.none, (.store 1 (.t 45) (.t 44)), .none⟩)] [])))) (.reg [⟨(.some 46), (.bin .add (.t 19) (.c (.int .i64 1))), .none⟩, ⟨(.some 19), (.mv (.t 46)), .none⟩])))))) (.seq (.reg [⟨(.some 47), (.mv (.t 6)), .none⟩, ⟨(.some 4), (.mv (.t 47)), .none⟩, ⟨(.some 5), (.mv (.c (.int .i64 0))), .none⟩]) .ret)))))))
theorem nc54 : nc Try.prog 54 = some (2, [(.t 4), (.t 5)], gc54) := by kernel_rfl
def gc55 : MC := (.seq (.reg [⟨(.some 2), (.box 4 (.t 0)), .none⟩, ⟨(.some 4), (.mv (.c (.bool .false))), .none⟩]) (.seq (.reg [⟨(.some 7), (.load 4 .true (.t 2)), .none⟩, ⟨(.some 8), (.call (.c (.fn 28 [] [])) [(.t 7)]), .none⟩, ⟨(.some 9), (.bin .neq (.t 8) (.c (.int .i64 0))), .none⟩, ⟨(.some 10), (.mv (.t 9)), .none⟩, ⟨(.some 11), (.mv (.t 1)), (.some (10, .false))⟩, ⟨(.some 12), (.len (.t 11)), (.some (10, .false))⟩, ⟨(.some 13), (.fadr 3 (.t 2)), (.some (10, .false))⟩, ⟨(.some 14), (.load 1 .false (.t 13)), (.some (10, .false))⟩, ⟨(.some 15), (.len (.t 14)), (.some (10, .false))⟩, ⟨(.some 16), (.bin .neq (.t 12) (.t 15)), (.some (10, .false))⟩, ⟨(.some 17), (.pick (.t 10) (.c (.bool .true)) (.t 16)), .none⟩]) (.seq (.cond (.t 17) (.seq (.reg [⟨(.some 4), (.mv (.c (.bool .false))), .none⟩]) .ret) .skip) (.seq (.reg [⟨(.some 18), (.fadr 3 (.t 2)), .none⟩, ⟨(.some 19), (.load 1 .false (.t 18)), .none⟩, ⟨(.some 20), (.len (.t 19)), .none⟩, ⟨(.some 21), (.mv (.c (.int .i64 0))), .none⟩]) (.seq (.block 0 (.loop (.seq (.reg [⟨(.some 22), (.bin .lss (.t 21) (.t 20)), .none⟩]) (.seq (.cond (.t 22) .skip (.exit 0)) (.seq (.block 1 (.seq (.reg [⟨(.some 23), (.mv (.t 21)), .none⟩, ⟨(.some 24), (.iadr 3 (.t 19) (.t 21)), .none⟩, ⟨(.some 25), (.load 3 .true (.t 24)), .none⟩, ⟨(.some 6), (.alloc [(.int .i64 0), (.int .i64 0), (.int .i64 0)]), .none⟩, ⟨(.some 5), (.mv (.t 23)), .none⟩, ⟨.none, (.store 3 (.t 6) (.t 25)), .none⟩]) (.seq (.dreg 0 [(.plain, ⟨(.some 26), (.mv (.t 1)), .none⟩), (.plain, ⟨(.some 27), (.mv (.t 5)), .none⟩), (.plain, ⟨(.some 28), (.iadr 1 (.t 26) (.t 27)), .none⟩), (.plain, ⟨(.some 29), (.load 1 .false (.t 28)), .none⟩), (.plain, ⟨(.some 30), (.bin .lss (.t 29) (.c (.int .i64 0))), .none⟩), (.plain, ⟨(.some 31), (.mv (.t 30)), .none⟩), (.plain, ⟨(.some 32), (.mv (.t 1)), (.some (31, .false))⟩), (.plain, ⟨(.some 33), (.mv (.t 5)), (.some (31, .false))⟩), (.plain, ⟨(.some 34), (.iadr 1 (.t 32) (.t 33)), (.some (31, .false))⟩), (.plain, ⟨(.some 35), (.load 1 .false (.t 34)), (.some (31, .false))⟩), (.plain, ⟨(.some 36), (.fadr 2 (.t 6)), (.some (31, .false))⟩), (.plain, ⟨(.some 37), (.load 1 .false (.t 36)), (.some (31, .false))⟩), (.plain, ⟨(.some 38), (.bin .gtr (.t 35) (.t 37)), (.some (31, .false))⟩), (.plain, ⟨(.some 39), (.pick (.t 31) (.c (.bool .true)) (.t 38)), .none⟩)] []) (.cond (.t 39) (.seq (.reg [⟨(.some 4), (.mv (.c (.bool .false))), .none⟩]) .ret) .skip)))) (.reg [⟨(.some 40), (.bin .add (.t 21) (.c (.int .i64 1))), .none⟩, ⟨(.some 21), (.mv (.t 40)), .none⟩])))))) (.seq (.reg [⟨(.some 4), (.mv (.c (.bool .true))), .none⟩]) .ret))))))
theorem nc55 : nc Try.prog 55 = some (2, [(.t 4)], gc55) := by kernel_rfl
def gc56 : MC := (.seq (.reg [⟨(.some 2), (.box 4 (.t 0)), .none⟩, ⟨(.some 4), (.mv (.c (.bool .false))), .none⟩]) (.seq (.reg [⟨(.some 5), (.load 4 .true (.t 2)), .none⟩, ⟨(.some 6), (.mv (.t 1)), .none⟩, ⟨(.some 7), (.fadr 1 (.t 2)), .none⟩, ⟨(.some 8), (.load 1 .false (.t 7)), .none⟩, ⟨(.some 9), (.bslice 1 1 [(.int .i64 0)] [(0, (.t 8))]), .none⟩, ⟨(.some 10), (.call (.c (.fn 95 [] [])) [(.t 5), (.t 6), (.c (.fn 96 [] [])), (.t 9)]), .none⟩, ⟨(.some 4), (.mv (.t 10)), .none⟩]) .ret))
theorem nc56 : nc Try.prog 56 = some (2, [(.t 4)], gc56) := by kernel_rfl
def gc57 : MC := (.seq (.reg [⟨(.some 2), (.box 4 (.t 0)), .none⟩, ⟨(.some 4), (.mv (.c (.bool .false))), .none⟩]) (.seq (.reg [⟨(.some 5), (.load 4 .true (.t 2)), .none⟩, ⟨(.some 6), (.mv (.t 1)), .none⟩, ⟨(.some 7), (.fadr 1 (.t 2)), .none⟩, ⟨(.some 8), (.load 1 .false (.t 7)), .none⟩, ⟨(.some 9), (.fadr 2 (.t 2)), .none⟩, ⟨(.some 10), (.load 1 .false (.t 9)), .none⟩, ⟨(.some 11), (.bslice 2 1 [(.int .i64 0), (.int .i64 0)] [(0, (.t 8)), (1, (.t 10))]), .none⟩, ⟨(.some 12), (.call (.c (.fn 95 [] [])) [(.t 5), (.t 6), (.c (.fn 97 [] [])), (.t 11)]), .none⟩, ⟨(.some 4), (.mv (.t 12)), .none⟩]) .ret))
theorem nc57 : nc Try.prog 57 = some (2, [(.t 4)], gc57) := by kernel_rfl
def gc95 : MC := (.seq (.reg [⟨(.some 4), (.box 4 (.t 0)), .none⟩, ⟨(.some 8), (.mv (.c (.bool .false))), .none⟩]) (.seq (.reg [⟨(.some 14), (.load 4 .true (.t 4)), .none⟩, ⟨(.some 15), (.mv (.t 1)), .none⟩, ⟨(.some 16), (.call (.c (.fn 54 [] [])) [(.t 14), (.t 15)]), .none⟩, ⟨(.some 13), (.mv (.t 16)), .none⟩, ⟨(.some 17), (.ext (.t 13) 0), .none⟩, ⟨(.some 18), (.ext (.t 13) 1), .none⟩, ⟨(.some 9), (.mv (.t 17)), .none⟩, ⟨(.some 10), (.mv (.t 18)), .none⟩]) (.seq (.reg [⟨(.some 19), (.mv (.t 9)), .none⟩, ⟨(.some 20), (.len (.t 19)), .none⟩, ⟨(.some 21), (.mv (.c (.int .i64 0))), .none⟩]) (.seq (.block 0 (.loop (.seq (.reg [⟨(.some 22), (.bin .lss (.t 21) (.t 20)), .none⟩]) (.seq (.cond (.t 22) .skip (.exit 0)) (.seq (.block 1 (.seq (.reg [⟨(.some 23), (.mv (.t 21)), .none⟩, ⟨(.some 24), (.iadr 1 (.t 19) (.t 21)), .none⟩, ⟨(.some 25), (.load 1 .false (.t 24)), .none⟩, ⟨(.some 11), (.mv (.t 23)), .none⟩, ⟨(.some 12), (.mv (.t 25)), .none⟩]) (.seq (.reg [⟨(.some 26), (.mv (.t 2)), .none⟩, ⟨(.some 27), (.mv (.t 12)), .none⟩, ⟨(.some 28), (.call (.t 26) [(.t 27)]), .none⟩, ⟨(.some 29), (.not (.t 28)), .none⟩, ⟨(.some 30), (.mv (.t 29)), .none⟩, ⟨(.some 31), (.mv (.t 3)), (.some (30, .true))⟩, ⟨(.some 32), (.mv (.t 11)), (.some (30, .true))⟩, ⟨(.some 33), (.call (.c (.fn 128 [] [])) [(.t 31), (.t 32)]), (.some (30, .true))⟩, ⟨(.some 34), (.not (.t 33)), (.some (30, .true))⟩, ⟨(.some 35), (.pick (.t 30) (.t 34) (.c (.bool .false))), .none⟩]) (.cond (.t 35) (.seq (.reg [⟨(.some 8), (.mv (.c (.bool .false))), .none⟩]) .ret) .skip)))) (.reg [⟨(.some 36), (.bin .add (.t 21) (.c (.int .i64 1))), .none⟩, ⟨(.some 21), (.mv (.t 36)), .none⟩])))))) (.seq (.reg [⟨(.some 37), (.mv (.t 10)), .none⟩, ⟨(.some 38), (.bin .eql (.t 37) (.c (.int .i64 0))), .none⟩, ⟨(.some 8), (.mv (.t 38)), .none⟩]) .ret)))))
theorem nc95 : nc Try.prog 95 = some (4, [(.t 8)], gc95) := by kernel_rfl
def gc96 : MC := (.seq (.reg [⟨(.some 2), (.mv (.c (.bool .false))), .none⟩]) (.seq (.reg [⟨(.some 3), (.mv (.t 0)), .none⟩, ⟨(.some 4), (.bin .geq (.t 3) (.c (.int .i64 0))), .none⟩, ⟨(.some 2), (.mv (.t 4)), .none⟩]) .ret))
theorem nc96 : nc Try.prog 96 = some (1, [(.t 2)], gc96) := by kernel_rfl
def gc97 : MC := (.seq (.reg [⟨(.some 2), (.mv (.c (.bool .false))), .none⟩]) (.seq (.reg [⟨(.some 3), (.mv (.t 0)), .none⟩, ⟨(.some 4), (.bin .eql (.t 3) (.c (.int .i64 0))), .none⟩, ⟨(.some 2), (.mv (.t 4)), .none⟩]) .ret))
theorem nc97 : nc Try.prog 97 = some (1, [(.t 2)], gc97) := by kernel_rfl
def gc128 : MC := (.seq (.reg [⟨(.some 4), (.mv (.c (.bool .false))), .none⟩]) (.seq (.reg [⟨(.some 5), (.mv (.t 0)), .none⟩, ⟨(.some 6), (.mv (.t 1)), .none⟩, ⟨(.some 7), (.call (.c (.fn 135 [] [])) [(.t 5), (.t 6)]), .none⟩, ⟨(.some 8), (.bin .geq (.t 7) (.c (.int .i64 0))), .none⟩, ⟨(.some 4), (.mv (.t 8)), .none⟩]) .ret))
theorem nc128 : nc Try.prog 128 = some (2, [(.t 4)], gc128) := by kernel_rfl
def gc135 : MC := (.seq (.reg [⟨(.some 4), (.mv (.c (.int .i64 0))), .none⟩]) (.seq (.reg [⟨(.some 6), (.mv (.t 0)), .none⟩, ⟨(.some 7), (.len (.t 6)), .none⟩, ⟨(.some 8), (.mv (.c (.int .i64 0))), .none⟩]) (.seq (.block 0 (.loop (.seq (.reg [⟨(.some 9), (.bin .lss (.t 8) (.t 7)), .none⟩]) (.seq (.cond (.t 9) .skip (.exit 0)) (.seq (.block 1 (.seq (.reg [⟨(.some 10), (.mv (.t 8)), .none⟩, ⟨(.some 5), (.mv (.t 10)), .none⟩]) (.seq (.reg [⟨(.some 11), (.mv (.t 1)), .none⟩, ⟨(.some 12), (.mv (.t 0)), .none⟩, ⟨(.some 13), (.mv (.t 5)), .none⟩, ⟨(.some 14), (.iadr 1 (.t 12) (.t 13)), .none⟩, ⟨(.some 15), (.load 1 .false (.t 14)), .none⟩, ⟨(.some 16), (.bin .eql (.t 11) (.t 15)), .none⟩]) (.cond (.t 16) (.seq (.reg [⟨(.some 17), (.mv (.t 5)), .none⟩, ⟨(.some 4), (.mv (.t 17)), .none⟩]) .ret) .skip)))) (.reg [⟨(.some 18), (.bin .add (.t 8) (.c (.int .i64 1))), .none⟩, ⟨(.some 8), (.mv (.t 18)), .none⟩])))))) (.seq (.reg [⟨(.some 4), (.mv (.c (.int .i64 (-1)))), .none⟩]) .ret))))
theorem nc135 : nc Try.prog 135 = some (2, [(.t 4)], gc135) := by kernel_rfl
end Go.Proofs.Ytpojdgeginigjaa
/- Flows: Within, Excess: the walks. -/
set_option linter.unusedSimpArgs false
set_option linter.unusedVariables false
namespace Go.Proofs.Ytpojdgeginigjaa
open Go Go.Ar
set_option maxRecDepth 100000

def WithinP (n : Net) (nf : Nat) (f : Nat → Int) : Prop := chk n = 0 ∧ nf = n.arcs.length ∧ ∀ i (hi : i < n.arcs.length), 0 ≤ f i ∧ f i ≤ n.arcs[i].cap

set_option maxHeartbeats 2000000 in
theorem pc_within {n : Net} {a y : V} {nf : Nat} {f : Nat → Int} {H : Heap} (h : AL H a n.arcs) (hs : n.arcs.length ≤ 2 ^ 40) (hy : TB H y nf fun j => .int .i64 (f j)) {b : Bool} (hb : b = true ↔ WithinP n nf f) : Pc E 55 [NV n a, y] H (.bool b) := Pc.mk fun G => by
  have hA := h.app G
  have hY := hy.app G
  generalize H ++ G = H1 at *
  clear h hy
  refine call_E rfl nc55 rfl ?_
  unfold gc55
  have hl : lenOf a = some n.arcs.length := Rw.len hA
  obtain ⟨G1, g1⟩ := (pc_check (hA.app [nbox n a]) hs).run
  unfold NV nbox at g1
  unfold NV
  refine wa_sr ⟨_, by simp [len_cells hl]; rfl, ?_⟩
  by_cases hc : chk n = 0
  case neg =>
    have : b = false := by rw [← Bool.not_eq_true, hb]; exact fun h => hc h.1
    subst this
    have hcb : (chk n != 0) = true := by simp [hc]
    refine wa_sr ⟨_, by simp -implicitDefEqProofs [g1, hcb]; rfl, ?_⟩
    refine wa_if (t := true) (by simp) (fun _ => ?_) (fun h => by cases h)
    refine wa_sr ⟨_, by simp; rfl, ?_⟩
    exact wa_rt ⟨by simp, _, by simp; rfl, rfl, _, by simp; rfl⟩
  rw [hc] at g1
  by_cases hn : nf = n.arcs.length
  case neg =>
    have : b = false := by rw [← Bool.not_eq_true, hb]; exact fun h => hn h.2.1
    subst this
    have hni : ((nf : Int) == (n.arcs.length : Int)) = false := by simp; omega
    refine wa_sr ⟨_, by simp -implicitDefEqProofs [g1, hY.len, hl, hni, hn, bne]; rfl, ?_⟩
    refine wa_if (t := true) (by simp [hni, hn]) (fun _ => ?_) (fun h => by cases h)
    refine wa_sr ⟨_, by simp; rfl, ?_⟩
    exact wa_rt ⟨by simp, _, by simp; rfl, rfl, _, by simp; rfl⟩
  subst hn
  refine wa_sr ⟨_, by simp -implicitDefEqProofs [g1, hY.len, hl]; rfl, ?_⟩
  refine wa_if (t := false) (by simp) (fun h => by cases h) (fun _ => ?_)
  refine wa_sr ⟨_, by simp -implicitDefEqProofs [hl]; rfl, ?_⟩
  refine wa_cut (fun s => (∃ G', s.H = H1 ++ G') ∧ b = true) ?_ ?_
  · refine wa_for (n := n.arcs.length) (fun i (_ : Heap) => [(1, y), (19, a)]) (fun i G H' => H' = H1 ++ G ∧ ∀ j (hj : j < n.arcs.length), j < i → 0 ≤ f j ∧ f j ≤ n.arcs[j].cap) (nbox n a :: G1)
      (by decide) (fun i hi => w64 (by omega) (by omega)) (by simp) (by simp) (by simp [Rg]) ⟨by simp [nbox], fun j _ hj => by omega⟩ (by simp) ?_ ?_
    · rintro i G τ _ hi t21 t20 ⟨t1, t19, -⟩ ⟨rfl, hI⟩
      dsimp only [ev] at *
      obtain ⟨ka, o, cc, rfl, hka, hr, _⟩ := hA.at hi
      obtain ⟨ky, oy, cy, rfl, ry⟩ := hY.at hi
      have hbn : ¬ (0 ≤ f i ∧ f i ≤ n.arcs[i].cap) → b = false := fun h => by rw [← Bool.not_eq_true, hb]; exact fun h' => h (h'.2.2 i hi)
      have hst : (0 ≤ f i ∧ f i ≤ n.arcs[i].cap) → ∀ j (hj : j < n.arcs.length), j < i + 1 → 0 ≤ f j ∧ f j ≤ n.arcs[j].cap := fun h j hj hji => by
        by_cases e : j = i
        · subst e; exact h
        · exact hI j hj (by omega)
      generalize n.arcs[i] = ar at *
      simp only [Arc.cells] at hr
      refine wa_sr ⟨_, by simp -implicitDefEqProofs [t19, t21, hi, hr]; rfl, ?_⟩
      by_cases hf0 : f i < 0
      · refine wa_dr rfl rfl ⟨_, by simp -implicitDefEqProofs [t1, hi, ry, hf0]; rfl, ?_⟩
        refine wa_cond (t := true) (by simp) (fun _ => ?_) (fun h => by cases h)
        refine wa_sr ⟨_, by simp; rfl, ?_⟩
        exact wa_ret ⟨by simp, _, by simp; rfl, by rw [hbn (by omega)]; rfl, _, by simp; rfl⟩
      by_cases hf1 : ar.cap < f i
      · refine wa_dr rfl rfl ⟨_, by simp -implicitDefEqProofs [t1, hi, ry, hf0, hf1]; rfl, ?_⟩
        refine wa_cond (t := true) (by simp) (fun _ => ?_) (fun h => by cases h)
        refine wa_sr ⟨_, by simp; rfl, ?_⟩
        exact wa_ret ⟨by simp, _, by simp; rfl, by rw [hbn (by omega)]; rfl, _, by simp; rfl⟩
      refine wa_dr rfl rfl ⟨_, by simp -implicitDefEqProofs [t1, hi, ry, hf0, hf1]; rfl, ?_⟩
      refine wa_cond (t := false) (by simp) (fun h => by cases h) (fun _ => wa_skip ?_)
      exact ⟨by simp [t21], by simp [t20], G ++ [.cells [.int .i64 ar.src, .int .i64 ar.dst, .int .i64 ar.cap] .ex], by simp [Rg, t1, t19], by simp, hst ⟨by omega, by omega⟩⟩
    · rintro G τ H' _ ⟨h', hI⟩
      exact ⟨⟨G, h'⟩, hb.2 ⟨hc, rfl, fun i hi => hI i hi hi⟩⟩
  · rintro ⟨τ, H'⟩ ⟨⟨G', h'⟩, hbt⟩
    dsimp only at h'
    subst h'
    refine wa_sr ⟨_, by simp; rfl, ?_⟩
    exact wa_ret ⟨by simp, _, by simp; rfl, by rw [hbt]; rfl, G', by simp⟩

/-- What a vertex has, of the first i arcs. -/
def exF (l : List Ar.Arc) (f : Nat → Int) : Nat → Nat → Int
  | 0, _ => 0
  | i + 1, v => exF l f i v + match l[i]? with | some a => (if a.dst = (v : Int) then f i else 0) - (if a.src = (v : Int) then f i else 0) | none => 0
def sumP (f : Nat → Int) : Nat → Int
  | 0 => 0
  | i + 1 => sumP f i + f i
theorem exF_s {l : List Ar.Arc} {f : Nat → Int} {i : Nat} (hi : i < l.length) (v : Nat) : exF l f (i + 1) v = exF l f i v + ((if l[i].dst = (v : Int) then f i else 0) - (if l[i].src = (v : Int) then f i else 0)) := by
  simp only [exF, List.getElem?_eq_getElem hi]
theorem exF_b {l : List Ar.Arc} {f : Nat → Int} (v : Nat) : ∀ i, i ≤ l.length → (∀ j, j < i → 0 ≤ f j) → -(sumP f i) ≤ exF l f i v ∧ exF l f i v ≤ sumP f i
  | 0, _, _ => by simp [exF, sumP]
  | i + 1, hi, h => by
    have ih := exF_b (l := l) (f := f) v i (by omega) fun j hj => h j (by omega)
    have := h i (by omega)
    rw [exF_s (l := l) (by omega)]
    simp only [sumP]
    split <;> split <;> omega
theorem sumP_le {l : List Ar.Arc} {f : Nat → Int} : ∀ i, i ≤ l.length → (∀ j (hj : j < l.length), 0 ≤ f j ∧ f j ≤ l[j].cap) → sumP f i ≤ capS (l.take i)
  | 0, _, _ => by simp [sumP, capS]
  | i + 1, hi, h => by
    have ih := sumP_le (l := l) (f := f) i (by omega) h
    have := h i (by omega)
    have e : l.take (i + 1) = l.take i ++ [l[i]'(by omega)] := by rw [List.take_add_one, List.getElem?_eq_getElem (by omega)]; rfl
    rw [e, capS_append]
    simp only [sumP, capS]; omega
theorem within_sum {n : Net} {nf : Nat} {f : Nat → Int} (h : WithinP n nf f) : ∀ i, i ≤ n.arcs.length → sumP f i ≤ 4611686018427387904 := fun i hi => by
  obtain ⟨_, _, _, _, h5, h6⟩ := chk_zero h.1
  have h1 := sumP_le i hi h.2.2
  have h2 := ((sumOk_iff _).1 h6).2
  have h3 := capS_append (n.arcs.take i) (n.arcs.drop i)
  rw [List.take_append_drop] at h3
  have h4 := capS_nonneg (n.arcs.drop i) fun x hx => h5 x (List.mem_of_mem_drop hx)
  unfold big at h2
  omega

set_option maxHeartbeats 4000000 in
theorem excess_ok {n : Net} {a y : V} {nf vn : Nat} {f : Nat → Int} {H : Heap} (h : AL H a n.arcs) (hy : TB H y nf fun j => .int .i64 (f j)) (hw : WithinP n nf f) (hN : n.N = (vn : Int)) :
    ∃ F G, callL E (.f 54) [NV n a, y] H = some (.tup [.sl (H ++ F).length 0 vn vn, .int .i64 0], (H ++ F) ++ (rI vn (exF n.arcs f n.arcs.length) :: G)) := by
  obtain ⟨vn', hvn', hv2, hv4, hlm, hin⟩ := chk_inN hw.1
  obtain rfl : vn' = vn := by omega
  have key : ∃ v H', callL E (.f 54) [NV n a, y] H = some (v, H') ∧ ∃ F G, v = .tup [.sl (H ++ F).length 0 vn' vn', .int .i64 0] ∧ H' = (H ++ F) ++ (rI vn' (exF n.arcs f n.arcs.length) :: G) := by
    refine call_E rfl nc54 rfl ?_
    unfold gc54
    have hl : lenOf a = some n.arcs.length := Rw.len h
    obtain ⟨G1, g1⟩ := (pc_within (b := true) (h.app [nbox n a]) (by omega) (hy.app [nbox n a]) (by simp [hw])).run
    unfold NV nbox at g1
    unfold NV
    rw [hN] at g1 ⊢
    have hlim : (vn' : Int) ≤ (lim : Nat) := by unfold lim; omega
    have hp2 : (vn' : Int) * 8 ≤ 1099511627776 := by omega
    refine wa_sr ⟨_, by simp [len_cells hl]; rfl, ?_⟩
    refine wa_sr ⟨_, by simp -implicitDefEqProofs [g1]; rfl, ?_⟩
    refine wa_if (t := false) (by simp) (fun h => by cases h) (fun _ => ?_)
    refine wa_sr ⟨_, by simp -implicitDefEqProofs [hlim, hp2]; rfl, ?_⟩
    refine wa_sr ⟨_, by simp -implicitDefEqProofs [hl]; rfl, ?_⟩
    have hws := within_sum hw
    obtain ⟨_, hnf, hwi⟩ := hw
    subst hnf
    refine wa_cut (fun s => (∃ G, s.H = H ++ (.cells [.int .i64 vn', .int .i64 n.S, .int .i64 n.T, a] .ex :: (G1 ++ rI vn' (exF n.arcs f n.arcs.length) :: G))) ∧ s.τ 6 = .sl (H.length + (G1.length + 1)) 0 vn' vn') ?_ ?_
    · refine wa_for (n := n.arcs.length) (fun i (_ : Heap) => [(1, y), (6, .sl (H.length + (G1.length + 1)) 0 vn' vn'), (17, a)]) (fun i G H' => H' = H ++ (.cells [.int .i64 vn', .int .i64 n.S, .int .i64 n.T, a] .ex :: (G1 ++ rI vn' (exF n.arcs f i) :: G))) []
        (by decide) (fun i hi => w64 (by omega) (by omega)) (by simp) (by simp) (by simp [Rg]) (by simp [rI, exF]) (by simp) ?_ ?_
      · rintro i G τ _ hi t19 t18 ⟨t1, t6, t17, -⟩ rfl
        dsimp only [ev] at *
        obtain ⟨ka, o, cc, rfl, hka, hr, _⟩ := h.at hi
        obtain ⟨ky, oy, cy, rfl, ry⟩ := hy.at hi
        obtain ⟨s, d, e1, e2, hs, hd⟩ := hin _ (List.getElem_mem hi)
        have hst := fun v => exF_s (f := f) hi v
        have hb := fun v => exF_b (l := n.arcs) (f := f) v i (by omega) fun j hj => (hwi j (by omega)).1
        obtain ⟨hf0, hf1⟩ := hwi i hi
        have hs1 := hws (i + 1) hi
        simp only [sumP] at hs1
        have hs0 : 0 ≤ sumP f i := by have := hb 0; omega
        generalize hari : n.arcs[i] = ar at *
        obtain ⟨sr, ds, cp⟩ := ar
        dsimp only at e1 e2 hst
        subst e1 e2
        simp only [Arc.cells] at hr
        have hs' : s + 1 ≤ vn' := hs
        have hd' : d + 1 ≤ vn' := hd
        refine wa_sr ⟨_, by simp -implicitDefEqProofs [t17, t19, hi, hr]; rfl, ?_⟩
        have w1 : IntKind.i64.wrap (exF n.arcs f i s - f i) = exF n.arcs f i s - f i := by have := hb s; exact w64 (by omega) (by omega)
        refine wa_dr rfl rfl ⟨_, by simp -implicitDefEqProofs [t1, t6, hi, ry, rI, hs, hs', w1]; rfl, ?_⟩
        have hx : ∀ j, (if j = s then V.int .i64 (exF n.arcs f i s - f i) else V.int .i64 (exF n.arcs f i j)) = V.int .i64 (fupd (exF n.arcs f i) s (exF n.arcs f i s - f i) j) := fun j => by unfold fupd; split <;> rfl
        have w2 : IntKind.i64.wrap (fupd (exF n.arcs f i) s (exF n.arcs f i s - f i) d + f i) = fupd (exF n.arcs f i) s (exF n.arcs f i s - f i) d + f i := by
          unfold fupd
          have h1 := hb s
          have h2 := hb d
          split <;> exact w64 (by omega) (by omega)
        simp only [hx]
        refine wa_drl rfl rfl ⟨_, by simp -implicitDefEqProofs [t1, t6, hi, ry, hd, hd', w2]; rfl, ?_⟩
        refine ⟨by simp [t19], by simp [t18], G ++ [.cells [.int .i64 s, .int .i64 d, .int .i64 cp] .ex], by simp [Rg, t1, t6, t17], ?_⟩
        simp only [rI, List.append_assoc, List.cons_append]
        congr 4
        refine congrArg (fun x => Blk.cells x Ar.Mode.ex) (tb_congr fun j _ => ?_)
        rw [hst j]
        unfold fupd
        by_cases e1 : j = d
        · by_cases e2 : j = s
          · subst e1 e2; simp
          · subst e1
            have : ¬ ((s : Int) = (j : Int)) := by omega
            simp [e2, this]
        · by_cases e2 : j = s
          · subst e2
            have : ¬ ((d : Int) = (j : Int)) := by omega
            simp [e1, this]; omega
          · have h1 : ¬ ((s : Int) = (j : Int)) := by omega
            have h2 : ¬ ((d : Int) = (j : Int)) := by omega
            simp [e1, e2, h1, h2]
      · rintro G τ H' ⟨t1, t6, -⟩ h'
        exact ⟨⟨G, h'⟩, t6⟩
    · rintro ⟨τ, H'⟩ ⟨⟨G, h'⟩, t6⟩
      dsimp only at h' t6
      subst h'
      refine wa_sr ⟨_, by simp -implicitDefEqProofs [t6]; rfl, ?_⟩
      exact wa_ret ⟨by simp, _, by simp; rfl, .cells [.int .i64 vn', .int .i64 n.S, .int .i64 n.T, a] .ex :: G1, G, by simp [pack], by simp⟩
  obtain ⟨v, H', h1, F, G, rfl, rfl⟩ := key
  exact ⟨F, G, h1⟩
theorem excess_bad {n : Net} {a y : V} {nf : Nat} {f : Nat → Int} {H : Heap} (h : AL H a n.arcs) (hs : n.arcs.length ≤ 2 ^ 40) (hy : TB H y nf fun j => .int .i64 (f j)) (hw : ¬ WithinP n nf f) :
    ∃ G, callL E (.f 54) [NV n a, y] H = some (.tup [.nils, .int .i64 20], H ++ G) := by
  have key : ∃ v H', callL E (.f 54) [NV n a, y] H = some (v, H') ∧ ∃ G, v = .tup [.nils, .int .i64 20] ∧ H' = H ++ G := by
    refine call_E rfl nc54 rfl ?_
    unfold gc54
    have hl : lenOf a = some n.arcs.length := Rw.len h
    obtain ⟨G1, g1⟩ := (pc_within (b := false) (h.app [nbox n a]) hs (hy.app [nbox n a]) (by simp [hw])).run
    unfold NV nbox at g1
    unfold NV
    refine wa_sr ⟨_, by simp [len_cells hl]; rfl, ?_⟩
    refine wa_sr ⟨_, by simp -implicitDefEqProofs [g1]; rfl, ?_⟩
    refine wa_if (t := true) (by simp) (fun _ => ?_) (fun h => by cases h)
    refine wa_sr ⟨_, by simp; rfl, ?_⟩
    exact wa_rt ⟨by simp, _, by simp; rfl, _, rfl, by simp; rfl⟩
  obtain ⟨v, H', h1, G, rfl, rfl⟩ := key
  exact ⟨G, h1⟩
end Go.Proofs.Ytpojdgeginigjaa
/- Flows: all, Pre, Right, Value: the walks. -/
set_option linter.unusedSimpArgs false
set_option linter.unusedVariables false
namespace Go.Proofs.Ytpojdgeginigjaa
open Go Go.Ar
set_option maxRecDepth 100000

theorem contains_ok {z : V} {nb : Nat} {g : Nat → Int} {v : Int} {H : Heap} (h : TB H z nb fun j => .int .i64 (g j)) (hs : nb ≤ 2 ^ 40) {b : Bool} (hb : b = true ↔ ∃ j, j < nb ∧ g j = v) : callL E (.f 128) [z, .int .i64 v] H = some (.bool b, H) := by
  have k1 : ∃ w H', callL E (.f 135) [z, .int .i64 v] H = some (w, H') ∧ (∃ r : Int, w = .int .i64 r ∧ decide (0 ≤ r) = b) ∧ H' = H := by
    refine call_E rfl nc135 rfl ?_
    unfold gc135
    refine wa_sr ⟨_, by simp; rfl, ?_⟩
    refine wa_sr ⟨_, by simp [h.len]; rfl, ?_⟩
    refine wa_cut (fun s => s.H = H ∧ b = false) ?_ ?_
    · refine wa_for (n := nb) (fun i (_ : Unit) => [(0, z), (1, .int .i64 v)]) (fun i _ H' => H' = H ∧ ∀ j, j < i → g j ≠ v) () (by decide) (fun i hi => w64 (by omega) (by omega)) (by simp) (by simp) (by simp [Rg]) ⟨rfl, fun j hj => by omega⟩ (by simp) ?_ ?_
      · rintro i _ τ _ hi t8 t7 ⟨t0, t1, -⟩ ⟨rfl, hno⟩
        dsimp only [ev] at *
        obtain ⟨ka, oa, ca, ea, ra⟩ := h.at0 hi
        refine wa_sr ⟨_, by simp [t8]; rfl, ?_⟩
        by_cases he : v = g i
        · have : b = true := hb.2 ⟨i, hi, he.symm⟩
          subst this
          rw [← he] at ra
          refine wa_sr ⟨_, by simp -implicitDefEqProofs [t8, t0, t1, ea, hi, ra]; rfl, ?_⟩
          refine wa_cond (t := true) (by simp) (fun _ => ?_) (fun h => by cases h)
          refine wa_sr ⟨_, by simp; rfl, ?_⟩
          exact wa_ret ⟨by simp, _, by simp; rfl, ⟨i, by simp [pack, t8], by simp⟩, rfl⟩
        · have he' : (v == g i) = false := by simpa using he
          refine wa_sr ⟨_, by simp -implicitDefEqProofs [t8, t0, t1, ea, hi, ra, he']; rfl, ?_⟩
          refine wa_cond (t := false) (by simp) (fun h => by cases h) (fun _ => wa_skip ?_)
          refine ⟨by simp [t8], by simp [t7], (), by simp [Rg, t0, t1, ea], rfl, fun j hj => ?_⟩
          by_cases e : j = i
          · subst e; exact fun h => he h.symm
          · exact hno j (by omega)
      · rintro _ τ H' _ ⟨h', hno⟩
        refine ⟨h', ?_⟩
        rw [← Bool.not_eq_true, hb]
        rintro ⟨j, hj, he⟩
        exact hno j hj he
    · rintro ⟨τ, H'⟩ ⟨h', hbf⟩
      dsimp only at h'
      subst h' hbf
      refine wa_sr ⟨_, by simp; rfl, ?_⟩
      exact wa_ret ⟨by simp, _, by simp; rfl, ⟨-1, rfl, by simp⟩, rfl⟩
  obtain ⟨w, H', hi, ⟨r, rfl, hr⟩, rfl⟩ := k1
  have key : ∃ w H'', callL E (.f 128) [z, .int .i64 v] H' = some (w, H'') ∧ w = .bool b ∧ H'' = H' := by
    refine call_E rfl nc128 rfl ?_
    unfold gc128
    refine wa_sr ⟨_, by simp; rfl, ?_⟩
    refine wa_sr ⟨_, by simp -implicitDefEqProofs [hi]; rfl, ?_⟩
    exact wa_ret ⟨by simp, _, by simp; rfl, by simp [pack, ← hr], rfl⟩
  obtain ⟨w, H'', h1, rfl, rfl⟩ := key
  exact h1

/-- Is something so of the excess of all vertices but some? -/
def AllP (n : Net) (nf : Nat) (f : Nat → Int) (p : Int → Bool) (q : Nat → Prop) : Prop := WithinP n nf f ∧ ∀ v : Nat, (v : Int) < n.N → p (exF n.arcs f n.arcs.length v) = true ∨ q v

set_option maxHeartbeats 4000000 in
theorem pc_all {n : Net} {a y z : V} {nf nb gk : Nat} {f g : Nat → Int} {p : Int → Bool} {H : Heap} (h : AL H a n.arcs) (hs : n.arcs.length ≤ 2 ^ 40) (hy : TB H y nf fun j => .int .i64 (f j)) (hz : TB H z nb fun j => .int .i64 (g j)) (hnb : nb ≤ 2 ^ 40)
    (hp : ∀ x H, callL E (.f gk) [.int .i64 x] H = some (.bool (p x), H)) {b : Bool} (hb : b = true ↔ AllP n nf f p fun v => ∃ j, j < nb ∧ g j = (v : Int)) : Pc E 95 [NV n a, y, .fn gk [] [], z] H (.bool b) := Pc.mk fun G => by
  have hA := h.app G
  have hY := hy.app G
  have hZ := hz.app G
  generalize H ++ G = H1 at *
  clear h hy hz
  refine call_E rfl nc95 rfl ?_
  unfold gc95
  have hl : lenOf a = some n.arcs.length := Rw.len hA
  unfold NV
  refine wa_sr ⟨_, by simp [len_cells hl]; rfl, ?_⟩
  by_cases hw : WithinP n nf f
  case neg =>
    obtain ⟨G1, g1⟩ := excess_bad (hA.app [nbox n a]) hs (hY.app [nbox n a]) hw
    unfold NV nbox at g1
    have : b = false := by rw [← Bool.not_eq_true, hb]; exact fun h => hw h.1
    subst this
    refine wa_sr ⟨_, by simp -implicitDefEqProofs [g1]; rfl, ?_⟩
    refine wa_sr ⟨_, by simp; rfl, ?_⟩
    refine wa_cut (fun s => s.τ 10 = .int .i64 20 ∧ ∃ G', s.H = H1 ++ G') ?_ ?_
    · refine wa_for (n := 0) (fun i (_ : Unit) => [(10, .int .i64 20)]) (fun i _ H' => ∃ G', H' = H1 ++ G') () (by decide) (fun i hi => by omega) (by simp) (by simp) (by simp [Rg]) ⟨_, by simp; rfl⟩ (by simp) (fun i _ τ H' hi => by omega) ?_
      rintro _ τ H' ⟨t10, -⟩ h'
      exact ⟨t10, h'⟩
    · rintro ⟨τ, H'⟩ ⟨t10, G', h'⟩
      dsimp only at t10 h'
      subst h'
      refine wa_sr ⟨_, by simp [t10]; rfl, ?_⟩
      exact wa_ret ⟨by simp, _, by simp; rfl, rfl, G', by simp⟩
  obtain ⟨vn, hvn, hv2, hv4, hlm, hin⟩ := chk_inN hw.1
  obtain ⟨F, G1, g1⟩ := excess_ok (hA.app [nbox n a]) (hY.app [nbox n a]) hw hvn
  unfold NV nbox at g1
  have hX : TB (H1 ++ [Blk.cells [.int .i64 n.N, .int .i64 n.S, .int .i64 n.T, a] .ex] ++ F ++ rI vn (exF n.arcs f n.arcs.length) :: G1) (.sl (H1 ++ [Blk.cells [.int .i64 n.N, .int .i64 n.S, .int .i64 n.T, a] .ex] ++ F).length 0 vn vn) vn fun v => .int .i64 (exF n.arcs f n.arcs.length v) := TB.own (G := []) (m := .ex) (by simp [rI])
  have hZ' : TB (H1 ++ [Blk.cells [.int .i64 n.N, .int .i64 n.S, .int .i64 n.T, a] .ex] ++ F ++ rI vn (exF n.arcs f n.arcs.length) :: G1) z nb fun j => .int .i64 (g j) := by
    simp only [List.append_assoc]
    exact hZ.app _
  have hpre : ∃ G', H1 ++ [Blk.cells [.int .i64 n.N, .int .i64 n.S, .int .i64 n.T, a] .ex] ++ F ++ rI vn (exF n.arcs f n.arcs.length) :: G1 = H1 ++ G' := ⟨_, by simp; rfl⟩
  refine wa_sr ⟨_, by simp -implicitDefEqProofs [-List.append_assoc, -List.length_append, g1]; rfl, ?_⟩
  generalize H1 ++ [Blk.cells [.int .i64 n.N, .int .i64 n.S, .int .i64 n.T, a] .ex] ++ F ++ rI vn (exF n.arcs f n.arcs.length) :: G1 = H2 at *
  generalize (H1 ++ [Blk.cells [.int .i64 n.N, .int .i64 n.S, .int .i64 n.T, a] .ex] ++ F).length = kx at *
  refine wa_sr ⟨_, by simp; rfl, ?_⟩
  refine wa_cut (fun s => s.H = H2 ∧ s.τ 10 = .int .i64 0 ∧ b = true) ?_ ?_
  · refine wa_for (n := vn) (fun i (_ : Unit) => [(2, .fn gk [] []), (3, z), (10, .int .i64 0), (19, .sl kx 0 vn vn)]) (fun i _ H' => H' = H2 ∧ ∀ v : Nat, v < i → p (exF n.arcs f n.arcs.length v) = true ∨ ∃ j, j < nb ∧ g j = (v : Int)) () (by decide) (fun i hi => w64 (by omega) (by omega)) (by simp) (by simp) (by simp [Rg]) ⟨rfl, fun v hv => by omega⟩ (by simp) ?_ ?_
    · rintro i _ τ H3 hi t21 t20 ⟨t2, t3, t10, t19, -⟩ ⟨hH3, hall⟩
      dsimp only [ev] at *
      subst hH3
      obtain ⟨k', o', c', e', rx⟩ := hX.at0 hi
      cases e'
      rw [Nat.zero_add] at rx
      generalize hxe : exF n.arcs f n.arcs.length i = xi at *
      refine wa_sr ⟨_, by simp -implicitDefEqProofs [t19, t21, hi, rx]; rfl, ?_⟩
      have hcall := hp xi H3
      by_cases hpx : p xi = true
      · rw [hpx] at hcall
        refine wa_sr ⟨_, by simp -implicitDefEqProofs [t2, t3, t21, hcall]; rfl, ?_⟩
        refine wa_cond (t := false) (by simp) (fun h => by cases h) (fun _ => wa_skip ?_)
        refine ⟨by simp [t21], by simp [t20], (), by simp [Rg, t2, t3, t10, t19], rfl, fun v hv => ?_⟩
        by_cases e : v = i
        · subst e; rw [hxe]; exact .inl hpx
        · exact hall v (by omega)
      · have hpx' : p xi = false := by simpa using hpx
        rw [hpx'] at hcall
        by_cases hex : ∃ j, j < nb ∧ g j = (i : Int)
        · have hc := contains_ok (b := true) (v := (i : Int)) hZ' hnb (by simpa using hex)
          refine wa_sr ⟨_, by simp -implicitDefEqProofs [t2, t3, t21, hcall, hc]; rfl, ?_⟩
          refine wa_cond (t := false) (by simp) (fun h => by cases h) (fun _ => wa_skip ?_)
          refine ⟨by simp [t21], by simp [t20], (), by simp [Rg, t2, t3, t10, t19], rfl, fun v hv => ?_⟩
          by_cases e : v = i
          · subst e; exact .inr hex
          · exact hall v (by omega)
        · have hc := contains_ok (b := false) (v := (i : Int)) hZ' hnb (by simpa using hex)
          have : b = false := by
            rw [← Bool.not_eq_true, hb]
            intro h
            rcases h.2 i (by omega) with h1 | h1
            · rw [hxe] at h1; exact hpx h1
            · exact hex h1
          subst this
          refine wa_sr ⟨_, by simp -implicitDefEqProofs [t2, t3, t21, hcall, hc]; rfl, ?_⟩
          refine wa_cond (t := true) (by simp) (fun _ => ?_) (fun h => by cases h)
          refine wa_sr ⟨_, by simp; rfl, ?_⟩
          exact wa_ret ⟨by simp, _, by simp; rfl, rfl, hpre⟩
    · rintro _ τ H' ⟨t2, t3, t10, -⟩ ⟨h', hall⟩
      exact ⟨h', t10, hb.2 ⟨hw, fun v hv => hall v (by omega)⟩⟩
  · rintro ⟨τ, H'⟩ ⟨h', t10, hbt⟩
    dsimp only at h' t10
    subst h' hbt
    refine wa_sr ⟨_, by simp [t10]; rfl, ?_⟩
    exact wa_ret ⟨by simp, _, by simp; rfl, rfl, hpre⟩
theorem cl96 (x : Int) (H : Heap) : callL E (.f 96) [.int .i64 x] H = some (.bool (decide (0 ≤ x)), H) := by
  have key : ∃ w H', callL E (.f 96) [.int .i64 x] H = some (w, H') ∧ w = .bool (decide (0 ≤ x)) ∧ H' = H := by
    refine call_E rfl nc96 rfl ?_
    unfold gc96
    refine wa_sr ⟨_, by simp; rfl, ?_⟩
    refine wa_sr ⟨_, by simp; rfl, ?_⟩
    exact wa_ret ⟨by simp, _, by simp; rfl, by simp [pack], rfl⟩
  obtain ⟨w, H', h, rfl, rfl⟩ := key
  exact h
theorem cl97 (x : Int) (H : Heap) : callL E (.f 97) [.int .i64 x] H = some (.bool (x == 0), H) := by
  have key : ∃ w H', callL E (.f 97) [.int .i64 x] H = some (w, H') ∧ w = .bool (x == 0) ∧ H' = H := by
    refine call_E rfl nc97 rfl ?_
    unfold gc97
    refine wa_sr ⟨_, by simp; rfl, ?_⟩
    refine wa_sr ⟨_, by simp; rfl, ?_⟩
    exact wa_ret ⟨by simp, _, by simp; rfl, by simp [pack], rfl⟩
  obtain ⟨w, H', h, rfl, rfl⟩ := key
  exact h
/-- A flow. -/
def RightP (n : Net) (nf : Nat) (f : Nat → Int) : Prop := WithinP n nf f ∧ ∀ v : Nat, (v : Int) < n.N → exF n.arcs f n.arcs.length v = 0 ∨ (v : Int) = n.S ∨ (v : Int) = n.T
def PreP (n : Net) (nf : Nat) (f : Nat → Int) : Prop := WithinP n nf f ∧ ∀ v : Nat, (v : Int) < n.N → 0 ≤ exF n.arcs f n.arcs.length v ∨ (v : Int) = n.S
theorem pc_right {n : Net} {a y : V} {nf : Nat} {f : Nat → Int} {H : Heap} (h : AL H a n.arcs) (hs : n.arcs.length ≤ 2 ^ 40) (hy : TB H y nf fun j => .int .i64 (f j)) {b : Bool} (hb : b = true ↔ RightP n nf f) : Pc E 57 [NV n a, y] H (.bool b) := Pc.mk fun G => by
  have hA := h.app G
  have hY := hy.app G
  generalize H ++ G = H1 at *
  clear h hy
  refine call_E rfl nc57 rfl ?_
  unfold gc57
  have hl : lenOf a = some n.arcs.length := Rw.len hA
  obtain ⟨G1, g1⟩ := (pc_all (g := fun j => if j = 0 then n.S else n.T) (p := fun x => x == 0) (z := .sl (H1.length + 1) 0 2 2) (nb := 2) (b := b) (hA.app [nbox n a, .cells [.int .i64 n.S, .int .i64 n.T] .ex]) hs (hY.app [nbox n a, .cells [.int .i64 n.S, .int .i64 n.T] .ex]) ⟨rfl, by simp [cellsOf, tb, List.range, List.range.loop]⟩ (by omega) cl97 (by
    rw [hb]
    constructor
    · rintro ⟨h1, h2⟩
      refine ⟨h1, fun v hv => ?_⟩
      rcases h2 v hv with h3 | h3 | h3
      · exact .inl (by simp [h3])
      · exact .inr ⟨0, by omega, by simp [h3]⟩
      · exact .inr ⟨1, by omega, by simp [h3]⟩
    · rintro ⟨h1, h2⟩
      refine ⟨h1, fun v hv => ?_⟩
      rcases h2 v hv with h3 | ⟨j, hj, h3⟩
      · exact .inl (by simpa using h3)
      · by_cases e : j = 0
        · subst e; exact .inr (.inl (by simpa using h3.symm))
        · rw [if_neg e] at h3; exact .inr (.inr h3.symm))).run
  unfold NV nbox at g1
  unfold NV
  refine wa_sr ⟨_, by simp [len_cells hl]; rfl, ?_⟩
  refine wa_sr ⟨_, by simp -implicitDefEqProofs [fillc, g1]; rfl, ?_⟩
  exact wa_ret ⟨by simp, _, by simp; rfl, rfl, _, by simp; rfl⟩
theorem pc_pre {n : Net} {a y : V} {nf : Nat} {f : Nat → Int} {H : Heap} (h : AL H a n.arcs) (hs : n.arcs.length ≤ 2 ^ 40) (hy : TB H y nf fun j => .int .i64 (f j)) {b : Bool} (hb : b = true ↔ PreP n nf f) : Pc E 56 [NV n a, y] H (.bool b) := Pc.mk fun G => by
  have hA := h.app G
  have hY := hy.app G
  generalize H ++ G = H1 at *
  clear h hy
  refine call_E rfl nc56 rfl ?_
  unfold gc56
  have hl : lenOf a = some n.arcs.length := Rw.len hA
  obtain ⟨G1, g1⟩ := (pc_all (g := fun j => n.S) (p := fun x => decide (0 ≤ x)) (z := .sl (H1.length + 1) 0 1 1) (nb := 1) (b := b) (hA.app [nbox n a, .cells [.int .i64 n.S] .ex]) hs (hY.app [nbox n a, .cells [.int .i64 n.S] .ex]) ⟨rfl, by simp [cellsOf, tb, List.range, List.range.loop]⟩ (by omega) cl96 (by
    rw [hb]
    constructor
    · rintro ⟨h1, h2⟩
      refine ⟨h1, fun v hv => ?_⟩
      rcases h2 v hv with h3 | h3
      · exact .inl (by simp [h3])
      · exact .inr ⟨0, by omega, by simp [h3]⟩
    · rintro ⟨h1, h2⟩
      refine ⟨h1, fun v hv => ?_⟩
      rcases h2 v hv with h3 | ⟨j, hj, h3⟩
      · exact .inl (by simpa using h3)
      · exact .inr h3.symm)).run
  unfold NV nbox at g1
  unfold NV
  refine wa_sr ⟨_, by simp [len_cells hl]; rfl, ?_⟩
  refine wa_sr ⟨_, by simp -implicitDefEqProofs [fillc, g1]; rfl, ?_⟩
  exact wa_ret ⟨by simp, _, by simp; rfl, rfl, _, by simp; rfl⟩
/-- What a flow is worth. -/
theorem value_ok {n : Net} {a y : V} {nf : Nat} {f : Nat → Int} {H : Heap} (h : AL H a n.arcs) (hy : TB H y nf fun j => .int .i64 (f j)) (hr : RightP n nf f) {tn : Nat} (hT : n.T = (tn : Int)) :
    ∃ G, callL E (.f 38) [NV n a, y] H = some (.tup [.int .i64 (exF n.arcs f n.arcs.length tn), .int .i64 0], H ++ G) := by
  have key : ∃ v H', callL E (.f 38) [NV n a, y] H = some (v, H') ∧ ∃ G, v = .tup [.int .i64 (exF n.arcs f n.arcs.length tn), .int .i64 0] ∧ H' = H ++ G := by
    obtain ⟨vn, hvn, hv2, hv4, hlm, hin⟩ := chk_inN hr.1.1
    obtain ⟨_, _, h3, _⟩ := chk_zero hr.1.1
    rw [okE_iff] at h3
    have htv : tn < vn := by omega
    have htv2 : (tn : Int) < vn := by omega
    refine call_E rfl nc38 rfl ?_
    unfold gc38
    have hl : lenOf a = some n.arcs.length := Rw.len h
    obtain ⟨f1, g1⟩ := pc_right (b := true) (h.app [nbox n a]) (by omega) (hy.app [nbox n a]) (by simp [hr])
    have g1e := g1 []
    rw [List.append_nil, List.nil_append] at g1e
    obtain ⟨F, G2, g2⟩ := excess_ok ((h.app [nbox n a]).app (f1 [])) ((hy.app [nbox n a]).app (f1 [])) hr.1 hvn
    have hrd : rd (H ++ [nbox n a] ++ f1 [] ++ F ++ rI vn (exF n.arcs f n.arcs.length) :: G2) (H ++ [nbox n a] ++ f1 [] ++ F).length tn = some (.int .i64 (exF n.arcs f n.arcs.length tn)) := by
      rw [rd_app0]; simp [rI, htv]
    have hrt : rd (H ++ [nbox n a] ++ f1 [] ++ F ++ rI vn (exF n.arcs f n.arcs.length) :: G2) H.length 2 = some (.int .i64 tn) := by
      simp [nbox, hT]
    have hb4 : rdn (H ++ [nbox n a] ++ f1 []) H.length 0 4 = some [.int .i64 n.N, .int .i64 n.S, .int .i64 n.T, a] := by simp [nbox]
    have hpre : ∃ G', H ++ [nbox n a] ++ f1 [] ++ F ++ rI vn (exF n.arcs f n.arcs.length) :: G2 = H ++ G' := ⟨_, by simp; rfl⟩
    unfold NV at g1e g2
    unfold NV
    refine wa_sr ⟨_, by simp [len_cells hl]; rfl, ?_⟩
    have hb3 : rdn (H ++ [nbox n a]) H.length 0 4 = some [.int .i64 n.N, .int .i64 n.S, .int .i64 n.T, a] := by simp [nbox]
    change WP E _ ⟨_, H ++ [nbox n a]⟩ _
    refine wa_sr ⟨_, by simp -implicitDefEqProofs [-List.append_assoc, hb3, g1e]; rfl, ?_⟩
    refine wa_if (t := false) (by simp) (fun h => by cases h) (fun _ => ?_)
    refine wa_sr ⟨_, by simp -implicitDefEqProofs [-List.append_assoc, -List.length_append, hb4, g2]; rfl, ?_⟩
    generalize H ++ [nbox n a] ++ f1 [] ++ F ++ rI vn (exF n.arcs f n.arcs.length) :: G2 = H2 at *
    generalize (H ++ [nbox n a] ++ f1 [] ++ F).length = kx at *
    refine wa_sr ⟨_, by simp -implicitDefEqProofs [hrt, htv, hrd]; rfl, ?_⟩
    obtain ⟨G', hG'⟩ := hpre
    exact wa_ret ⟨by simp, _, by simp; rfl, G', rfl, hG'⟩
  obtain ⟨v, H', h1, G, rfl, rfl⟩ := key
  exact ⟨G, h1⟩
theorem value_bad {n : Net} {a y : V} {nf : Nat} {f : Nat → Int} {H : Heap} (h : AL H a n.arcs) (hs : n.arcs.length ≤ 2 ^ 40) (hy : TB H y nf fun j => .int .i64 (f j)) (hr : ¬ RightP n nf f) :
    ∃ G, callL E (.f 38) [NV n a, y] H = some (.tup [.int .i64 0, .int .i64 20], H ++ G) := by
  have key : ∃ v H', callL E (.f 38) [NV n a, y] H = some (v, H') ∧ ∃ G, v = .tup [.int .i64 0, .int .i64 20] ∧ H' = H ++ G := by
    refine call_E rfl nc38 rfl ?_
    unfold gc38
    have hl : lenOf a = some n.arcs.length := Rw.len h
    obtain ⟨G1, g1⟩ := (pc_right (b := false) (h.app [nbox n a]) hs (hy.app [nbox n a]) (by simp [hr])).run
    unfold NV nbox at g1
    unfold NV
    refine wa_sr ⟨_, by simp [len_cells hl]; rfl, ?_⟩
    refine wa_sr ⟨_, by simp -implicitDefEqProofs [g1]; rfl, ?_⟩
    refine wa_if (t := true) (by simp) (fun _ => ?_) (fun h => by cases h)
    refine wa_sr ⟨_, by simp; rfl, ?_⟩
    exact wa_rt ⟨by simp, _, by simp; rfl, _, rfl, by simp; rfl⟩
  obtain ⟨v, H', h1, G, rfl, rfl⟩ := key
  exact ⟨G, h1⟩
end Go.Proofs.Ytpojdgeginigjaa
/- The flat code of functions. -/
set_option linter.unusedSimpArgs false
set_option linter.unusedVariables false
namespace Go.Proofs.Ytpojdgeginigjaa
open Go Go.Ar
set_option maxRecDepth 100000
def gc35 : MC := (.seq (.reg [⟨(.some 2), (.box 4 (.t 0)), .none⟩, ⟨(.some 4), (.mv (.c (.int .i64 0))), .none⟩, ⟨(.some 5), (.mv (.c (.int .i64 0))), .none⟩]) (.seq (.reg [⟨(.some 9), (.load 4 .true (.t 2)), .none⟩, ⟨(.some 10), (.mv (.t 1)), .none⟩, ⟨(.some 11), (.call (.c (.fn 63 [] [])) [(.t 9), (.t 10)]), .none⟩, ⟨(.some 12), (.not (.t 11)), .none⟩]) (.seq (.cond (.t 12) (.seq (.reg [⟨(.some 4), (.mv (.c (.int .i64 0))), .none⟩, ⟨(.some 5), (.mv (.c (.int .i64 2))), .none⟩]) .ret) .skip) (.seq (.reg [⟨(.some 6), (.alloc [(.int .i64 0)]), .none⟩, ⟨.none, (.store 1 (.t 6) (.c (.int .i64 0))), .none⟩]) (.seq (.reg [⟨(.some 13), (.load 4 .true (.t 2)), .none⟩, ⟨(.some 14), (.mv (.t 1)), .none⟩, ⟨(.some 15), (.call (.c (.fn 82 [] [])) [(.t 13), (.t 14)]), .none⟩]) (.seq (.block 0 (.rangef (.t 15) [16, 17] (.seq (.reg [⟨(.some 7), (.mv (.t 16)), .none⟩]) (.reg [⟨(.some 8), (.mv (.t 17)), .none⟩])) (.block 1 (.seq (.reg [⟨(.some 18), (.mv (.t 8)), .none⟩]) (.cond (.t 18) (.dreg 0 [(.plain, ⟨(.some 19), (.load 1 .false (.t 6)), .none⟩), (.plain, ⟨(.some 20), (.fadr 3 (.t 2)), .none⟩), (.plain, ⟨(.some 21), (.load 1 .false (.t 20)), .none⟩), (.plain, ⟨(.some 22), (.mv (.t 7)), .none⟩), (.plain, ⟨(.some 23), (.iadr 3 (.t 21) (.t 22)), .none⟩), (.plain, ⟨(.some 24), (.fadr 2 (.t 23)), .none⟩), (.plain, ⟨(.some 25), (.load 1 .false (.t 24)), .none⟩), (.plain, ⟨(.some 26), (.bin .add (.t 19) (.t 25)), .none⟩), (.plain, ⟨.none, (.store 1 (.t 6) (.t 26)), .none⟩)] []) .skip))))) (.seq (.reg [⟨(.some 27), (.load 1 .false (.t 6)), .none⟩, ⟨(.some 4), (.mv (.t 27)), .none⟩, ⟨(.some 5), (.mv (.c (.int .i64 0))), .none⟩]) .ret)))))))
theorem nc35 : nc Try.prog 35 = some (2, [(.t 4), (.t 5)], gc35) := by kernel_rfl
def gc63 : MC := (.seq (.reg [⟨(.some 2), (.box 4 (.t 0)), .none⟩, ⟨(.some 4), (.mv (.c (.bool .false))), .none⟩]) (.seq (.reg [⟨(.some 5), (.load 4 .true (.t 2)), .none⟩, ⟨(.some 6), (.call (.c (.fn 28 [] [])) [(.t 5)]), .none⟩, ⟨(.some 7), (.bin .eql (.t 6) (.c (.int .i64 0))), .none⟩, ⟨(.some 8), (.mv (.t 7)), .none⟩, ⟨(.some 9), (.mv (.t 1)), (.some (8, .true))⟩, ⟨(.some 10), (.len (.t 9)), (.some (8, .true))⟩, ⟨(.some 11), (.fadr 0 (.t 2)), (.some (8, .true))⟩, ⟨(.some 12), (.load 1 .false (.t 11)), (.some (8, .true))⟩, ⟨(.some 13), (.bin .eql (.t 10) (.t 12)), (.some (8, .true))⟩, ⟨(.some 14), (.pick (.t 8) (.t 13) (.c (.bool .false))), .none⟩, ⟨(.some 15), (.mv (.t 14)), .none⟩, ⟨(.some 16), (.mv (.t 1)), (.some (15, .true))⟩, ⟨(.some 17), (.fadr 1 (.t 2)), (.some (15, .true))⟩, ⟨(.some 18), (.load 1 .false (.t 17)), (.some (15, .true))⟩, ⟨(.some 19), (.iadr 1 (.t 16) (.t 18)), (.some (15, .true))⟩, ⟨(.some 20), (.load 1 .false (.t 19)), (.some (15, .true))⟩, ⟨(.some 21), (.pick (.t 15) (.t 20) (.c (.bool .false))), .none⟩, ⟨(.some 22), (.mv (.t 21)), .none⟩, ⟨(.some 23), (.mv (.t 1)), (.some (22, .true))⟩, ⟨(.some 24), (.fadr 2 (.t 2)), (.some (22, .true))⟩, ⟨(.some 25), (.load 1 .false (.t 24)), (.some (22, .true))⟩, ⟨(.some 26), (.iadr 1 (.t 23) (.t 25)), (.some (22, .true))⟩, ⟨(.some 27), (.load 1 .false (.t 26)), (.some (22, .true))⟩, ⟨(.some 28), (.not (.t 27)), (.some (22, .true))⟩, ⟨(.some 29), (.pick (.t 22) (.t 28) (.c (.bool .false))), .none⟩, ⟨(.some 4), (.mv (.t 29)), .none⟩]) .ret))
theorem nc63 : nc Try.prog 63 = some (2, [(.t 4)], gc63) := by kernel_rfl
def gc65 : MC := (.seq (.reg [⟨(.some 2), (.box 4 (.t 0)), .none⟩, ⟨(.some 4), (.mv (.c .nils)), .none⟩]) (.seq (.reg [⟨(.some 6), (.fadr 0 (.t 2)), .none⟩, ⟨(.some 7), (.load 1 .false (.t 6)), .none⟩, ⟨(.some 8), (.mkslice 1 1 [(.bool .false)] (.t 7)), .none⟩, ⟨(.some 5), (.mv (.t 8)), .none⟩]) (.seq (.reg [⟨(.some 9), (.mv (.t 5)), .none⟩, ⟨(.some 10), (.mv (.t 1)), .none⟩, ⟨(.some 11), (.copy 1 (.t 9) (.t 10)), .none⟩]) (.seq (.dreg 0 [(.plain, ⟨(.some 12), (.mv (.t 5)), .none⟩), (.plain, ⟨(.some 13), (.fadr 1 (.t 2)), .none⟩), (.plain, ⟨(.some 14), (.load 1 .false (.t 13)), .none⟩), (.plain, ⟨(.some 15), (.mv (.t 5)), .none⟩), (.plain, ⟨(.some 16), (.fadr 2 (.t 2)), .none⟩), (.plain, ⟨(.some 17), (.load 1 .false (.t 16)), .none⟩), (.plain, ⟨(.some 18), (.iadr 1 (.t 12) (.t 14)), .none⟩), (.plain, ⟨.none, (.store 1 (.t 18) (.c (.bool .true))), .none⟩), (.plain, ⟨(.some 19), (.iadr 1 (.t 15) (.t 17)), .none⟩), (.plain, ⟨.none, (.store 1 (.t 19) (.c (.bool .false))), .none⟩)] [(.ne (.t 16) (.t 18))]) (.seq (.reg [⟨(.some 20), (.mv (.t 5)), .none⟩, ⟨(.some 4), (.mv (.t 20)), .none⟩]) .ret)))))
theorem nc65 : nc Try.prog 65 = some (2, [(.t 4)], gc65) := by kernel_rfl
def gc66 : MC := (.seq (.reg [⟨(.some 3), (.box 4 (.t 0)), .none⟩, ⟨(.some 4), (.box 1 (.t 1)), .none⟩, ⟨(.some 6), (.mv (.c (.int .i64 0))), .none⟩, ⟨(.some 7), (.mv (.c (.int .i64 0))), .none⟩]) (.seq (.block 0 (.seq (.reg [⟨(.some 12), (.load 4 .true (.t 3)), .none⟩, ⟨(.some 13), (.mv (.t 2)), .none⟩, ⟨(.some 14), (.call (.c (.fn 63 [] [])) [(.t 12), (.t 13)]), .none⟩, ⟨(.some 15), (.not (.t 14)), .none⟩, ⟨(.some 11), (.mv (.t 15)), .none⟩]) (.cond (.t 11) (.seq (.reg [⟨(.some 6), (.mv (.c (.int .i64 0))), .none⟩, ⟨(.some 7), (.mv (.c (.int .i64 2))), .none⟩]) .ret) (.seq (.reg [⟨(.some 17), (.load 4 .true (.t 3)), .none⟩, ⟨(.some 18), (.load 1 .false (.t 4)), .none⟩, ⟨(.some 19), (.call (.c (.fn 55 [] [])) [(.t 17), (.t 18)]), .none⟩, ⟨(.some 20), (.not (.t 19)), .none⟩, ⟨(.some 16), (.mv (.t 20)), .none⟩]) (.cond (.t 16) (.seq (.reg [⟨(.some 6), (.mv (.c (.int .i64 0))), .none⟩, ⟨(.some 7), (.mv (.c (.int .i64 20))), .none⟩]) .ret) .skip))))) (.seq (.reg [⟨(.some 8), (.alloc [(.int .i64 0)]), .none⟩, ⟨.none, (.store 1 (.t 8) (.c (.int .i64 0))), .none⟩]) (.seq (.reg [⟨(.some 21), (.load 4 .true (.t 3)), .none⟩, ⟨(.some 22), (.mv (.t 2)), .none⟩, ⟨(.some 23), (.call (.c (.fn 82 [] [])) [(.t 21), (.t 22)]), .none⟩]) (.seq (.block 1 (.rangef (.t 23) [24, 25] (.seq (.reg [⟨(.some 9), (.mv (.t 24)), .none⟩]) (.reg [⟨(.some 10), (.mv (.t 25)), .none⟩])) (.block 2 (.seq (.reg [⟨(.some 26), (.mv (.t 10)), .none⟩]) (.cond (.t 26) (.dreg 0 [(.plain, ⟨(.some 27), (.load 1 .false (.t 8)), .none⟩), (.plain, ⟨(.some 28), (.load 1 .false (.t 4)), .none⟩), (.plain, ⟨(.some 29), (.mv (.t 9)), .none⟩), (.plain, ⟨(.some 30), (.iadr 1 (.t 28) (.t 29)), .none⟩), (.plain, ⟨(.some 31), (.load 1 .false (.t 30)), .none⟩), (.plain, ⟨(.some 32), (.bin .add (.t 27) (.t 31)), .none⟩), (.plain, ⟨.none, (.store 1 (.t 8) (.t 32)), .none⟩)] []) (.dreg 0 [(.plain, ⟨(.some 33), (.load 1 .false (.t 8)), .none⟩), (.plain, ⟨(.some 34), (.load 1 .false (.t 4)), .none⟩), (.plain, ⟨(.some 35), (.mv (.t 9)), .none⟩), (.plain, ⟨(.some 36), (.iadr 1 (.t 34) (.t 35)), .none⟩), (.plain, ⟨(.some 37), (.load 1 .false (.t 36)), .none⟩), (.plain, ⟨(.some 38), (.bin .sub (.t 33) (.t 37)), .none⟩), (.plain, ⟨.none, (.store 1 (.t 8) (.t 38)), .none⟩)] [])))))) (.seq (.reg [⟨(.some 39), (.load 1 .false (.t 8)), .none⟩, ⟨(.some 6), (.mv (.t 39)), .none⟩, ⟨(.some 7), (.mv (.c (.int .i64 0))), .none⟩]) .ret))))))
theorem nc66 : nc Try.prog 66 = some (3, [(.t 6), (.t 7)], gc66) := by kernel_rfl
def gc67 : MC := (.seq (.reg [⟨(.some 3), (.box 4 (.t 0)), .none⟩, ⟨(.some 4), (.box 1 (.t 1)), .none⟩, ⟨(.some 6), (.alloc [(.bool .false)]), .none⟩]) (.seq (.reg [⟨(.some 9), (.load 4 .true (.t 3)), .none⟩, ⟨(.some 10), (.mv (.t 2)), .none⟩, ⟨(.some 11), (.call (.c (.fn 63 [] [])) [(.t 9), (.t 10)]), .none⟩, ⟨(.some 12), (.not (.t 11)), .none⟩, ⟨(.some 13), (.mv (.t 12)), .none⟩, ⟨(.some 14), (.load 4 .true (.t 3)), (.some (13, .false))⟩, ⟨(.some 15), (.load 1 .false (.t 4)), (.some (13, .false))⟩, ⟨(.some 16), (.call (.c (.fn 55 [] [])) [(.t 14), (.t 15)]), (.some (13, .false))⟩, ⟨(.some 17), (.not (.t 16)), (.some (13, .false))⟩, ⟨(.some 18), (.pick (.t 13) (.c (.bool .true)) (.t 17)), .none⟩]) (.seq (.cond (.t 18) (.seq (.reg [⟨.none, (.store 1 (.t 6) (.c (.bool .false))), .none⟩]) .ret) .skip) (.seq (.reg [⟨(.some 19), (.load 4 .true (.t 3)), .none⟩, ⟨(.some 20), (.mv (.t 2)), .none⟩, ⟨(.some 21), (.call (.c (.fn 82 [] [])) [(.t 19), (.t 20)]), .none⟩]) (.seq (.block 0 (.rangef (.t 21) [22, 23] (.seq (.reg [⟨(.some 7), (.mv (.t 22)), .none⟩]) (.reg [⟨(.some 8), (.mv (.t 23)), .none⟩])) (.block 1 (.seq (.dreg 0 [(.plain, ⟨(.some 24), (.mv (.t 8)), .none⟩), (.plain, ⟨(.some 25), (.mv (.t 24)), .none⟩), (.plain, ⟨(.some 26), (.load 1 .false (.t 4)), (.some (25, .true))⟩), (.plain, ⟨(.some 27), (.mv (.t 7)), (.some (25, .true))⟩), (.plain, ⟨(.some 28), (.iadr 1 (.t 26) (.t 27)), (.some (25, .true))⟩), (.plain, ⟨(.some 29), (.load 1 .false (.t 28)), (.some (25, .true))⟩), (.plain, ⟨(.some 30), (.fadr 3 (.t 3)), (.some (25, .true))⟩), (.plain, ⟨(.some 31), (.load 1 .false (.t 30)), (.some (25, .true))⟩), (.plain, ⟨(.some 32), (.mv (.t 7)), (.some (25, .true))⟩), (.plain, ⟨(.some 33), (.iadr 3 (.t 31) (.t 32)), (.some (25, .true))⟩), (.plain, ⟨(.some 34), (.fadr 2 (.t 33)), (.some (25, .true))⟩), (.plain, ⟨(.some 35), (.load 1 .false (.t 34)), (.some (25, .true))⟩), (.plain, ⟨(.some 36), (.bin .lss (.t 29) (.t 35)), (.some (25, .true))⟩), (.plain, ⟨(.some 37), (.pick (.t 25) (.t 36) (.c (.bool .false))), .none⟩), (.plain, ⟨(.some 38), (.mv (.t 37)), .none⟩), (.plain, ⟨(.some 39), (.mv (.t 8)), (.some (38, .false))⟩), (.plain, ⟨(.some 40), (.not (.t 39)), (.some (38, .false))⟩), (.plain, ⟨(.some 41), (.mv (.t 40)), (.some (38, .false))⟩), (.plain, ⟨(.some 42), (.load 1 .false (.t 4)), (.some (41, .true))⟩), (.plain, ⟨(.some 43), (.mv (.t 7)), (.some (41, .true))⟩), (.plain, ⟨(.some 44), (.iadr 1 (.t 42) (.t 43)), (.some (41, .true))⟩), (.plain, ⟨(.some 45), (.load 1 .false (.t 44)), (.some (41, .true))⟩), (.plain, ⟨(.some 46), (.bin .gtr (.t 45) (.c (.int .i64 0))), (.some (41, .true))⟩), (.plain, ⟨(.some 47), (.pick (.t 41) (.t 46) (.c (.bool .false))), (.some (38, .false))⟩), (.plain, ⟨(.some 48), (.pick (.t 38) (.c (.bool .true)) (.t 47)), .none⟩)] []) (.cond (.t 48) (.seq (.reg [⟨.none, (.store 1 (.t 6) (.c (.bool .false))), .none⟩]) .ret) .skip))))) (.seq (.reg [⟨.none, (.store 1 (.t 6) (.c (.bool .true))), .none⟩]) .ret))))))
theorem nc67 : nc Try.prog 67 = some (3, [(.c 6 1 .false)], gc67) := by kernel_rfl
def gc82 : MC := (.seq (.reg [⟨(.some 2), (.box 4 (.t 0)), .none⟩, ⟨(.some 3), (.box 1 (.t 1)), .none⟩, ⟨(.some 4), (.mv (.c .nilf)), .none⟩]) (.seq (.reg [⟨(.some 5), (.mkfn 119 [] [(.t 2), (.t 3)]), .none⟩, ⟨(.some 4), (.mv (.t 5)), .none⟩]) .ret))
theorem nc82 : nc Try.prog 82 = some (2, [(.t 4)], gc82) := by kernel_rfl
def gc119 : MC := (.seq (.reg [⟨(.some 7), (.fadr 3 (.t 1)), .none⟩, ⟨(.some 8), (.load 1 .false (.t 7)), .none⟩, ⟨(.some 9), (.len (.t 8)), .none⟩, ⟨(.some 10), (.mv (.c (.int .i64 0))), .none⟩]) (.block 0 (.loop (.seq (.reg [⟨(.some 11), (.bin .lss (.t 10) (.t 9)), .none⟩]) (.seq (.cond (.t 11) .skip (.exit 0)) (.seq (.block 1 (.seq (.reg [⟨(.some 12), (.mv (.t 10)), .none⟩, ⟨(.some 13), (.iadr 3 (.t 8) (.t 10)), .none⟩, ⟨(.some 14), (.load 3 .true (.t 13)), .none⟩, ⟨(.some 5), (.alloc [(.int .i64 0), (.int .i64 0), (.int .i64 0)]), .none⟩, ⟨(.some 4), (.mv (.t 12)), .none⟩, ⟨.none, (.store 3 (.t 5) (.t 14)), .none⟩]) (.seq (.reg [⟨(.some 15), (.load 1 .false (.t 2)), .none⟩, ⟨(.some 16), (.fadr 0 (.t 5)), .none⟩, ⟨(.some 17), (.load 1 .false (.t 16)), .none⟩, ⟨(.some 18), (.call (.c (.fn 120 [] [])) [(.t 15), (.t 17)]), .none⟩, ⟨(.some 6), (.mv (.t 18)), .none⟩]) (.seq (.reg [⟨(.some 19), (.mv (.t 6)), .none⟩, ⟨(.some 20), (.load 1 .false (.t 2)), .none⟩, ⟨(.some 21), (.fadr 1 (.t 5)), .none⟩, ⟨(.some 22), (.load 1 .false (.t 21)), .none⟩, ⟨(.some 23), (.call (.c (.fn 120 [] [])) [(.t 20), (.t 22)]), .none⟩, ⟨(.some 24), (.eq .true .bool (.t 19) (.t 23)), .none⟩, ⟨(.some 25), (.mv (.t 24)), .none⟩, ⟨(.some 26), (.mv (.t 0)), (.some (25, .true))⟩, ⟨(.some 27), (.mv (.t 4)), (.some (25, .true))⟩, ⟨(.some 28), (.mv (.t 6)), (.some (25, .true))⟩, ⟨(.some 29), (.call (.t 26) [(.t 27), (.t 28)]), (.some (25, .true))⟩, ⟨(.some 30), (.not (.t 29)), (.some (25, .true))⟩, ⟨(.some 31), (.pick (.t 25) (.t 30) (.c (.bool .false))), .none⟩]) (.cond (.t 31) .ret .skip))))) (.reg [⟨(.some 32), (.bin .add (.t 10) (.c (.int .i64 1))), .none⟩, ⟨(.some 10), (.mv (.t 32)), .none⟩])))))))
theorem nc119 : nc Try.prog 119 = some (3, [], gc119) := by kernel_rfl
def gc120 : MC := (.seq (.reg [⟨(.some 4), (.mv (.c (.bool .false))), .none⟩]) (.seq (.reg [⟨(.some 5), (.mv (.t 1)), .none⟩, ⟨(.some 6), (.mv (.t 0)), .none⟩, ⟨(.some 7), (.len (.t 6)), .none⟩, ⟨(.some 8), (.bin .lss (.t 5) (.t 7)), .none⟩, ⟨(.some 9), (.mv (.t 8)), .none⟩, ⟨(.some 10), (.mv (.t 0)), (.some (9, .true))⟩, ⟨(.some 11), (.mv (.t 1)), (.some (9, .true))⟩, ⟨(.some 12), (.iadr 1 (.t 10) (.t 11)), (.some (9, .true))⟩, ⟨(.some 13), (.load 1 .false (.t 12)), (.some (9, .true))⟩, ⟨(.some 14), (.pick (.t 9) (.t 13) (.c (.bool .false))), .none⟩, ⟨(.some 4), (.mv (.t 14)), .none⟩]) .ret))
theorem nc120 : nc Try.prog 120 = some (2, [(.t 4)], gc120) := by kernel_rfl
end Go.Proofs.Ytpojdgeginigjaa
/- Cuts: Right, across: the walks. -/
set_option linter.unusedSimpArgs false
set_option linter.unusedVariables false
namespace Go.Proofs.Ytpojdgeginigjaa
open Go Go.Ar
set_option maxRecDepth 100000

/-- A cut. -/
def CutP (n : Net) (ns : Nat) (s : Nat → Bool) : Prop := chk n = 0 ∧ (ns : Int) = n.N ∧ s n.S.toNat = true ∧ s n.T.toNat = false
theorem pc_cut {n : Net} {a z : V} {ns : Nat} {s : Nat → Bool} {H : Heap} (h : AL H a n.arcs) (hs : n.arcs.length ≤ 2 ^ 40) (hz : TB H z ns fun j => .bool (s j)) {b : Bool} (hb : b = true ↔ CutP n ns s) : Pc E 63 [NV n a, z] H (.bool b) := Pc.mk fun G => by
  have hA := h.app G
  have hZ := hz.app G
  generalize H ++ G = H1 at *
  clear h hz
  refine call_E rfl nc63 rfl ?_
  unfold gc63
  have hl : lenOf a = some n.arcs.length := Rw.len hA
  obtain ⟨G1, g1⟩ := (pc_check (hA.app [nbox n a]) hs).run
  unfold NV nbox at g1
  unfold NV
  refine wa_sr ⟨_, by simp [len_cells hl]; rfl, ?_⟩
  by_cases hc : chk n = 0
  case neg =>
    have : b = false := by rw [← Bool.not_eq_true, hb]; exact fun h => hc h.1
    subst this
    have hcb : (chk n == 0) = false := by simpa using hc
    refine wa_sr ⟨_, by simp -implicitDefEqProofs [g1, hcb]; rfl, ?_⟩
    exact wa_ret ⟨by simp, _, by simp; rfl, rfl, _, by simp; rfl⟩
  rw [hc] at g1
  obtain ⟨_, _, h3, _⟩ := chk_zero hc
  rw [okE_iff] at h3
  by_cases hn : (ns : Int) = n.N
  case neg =>
    have : b = false := by rw [← Bool.not_eq_true, hb]; exact fun h => hn h.2.1
    subst this
    have hni : ((ns : Int) == n.N) = false := by simpa using hn
    refine wa_sr ⟨_, by simp -implicitDefEqProofs [g1, hZ.len, hni]; rfl, ?_⟩
    exact wa_ret ⟨by simp, _, by simp; rfl, rfl, _, by simp; rfl⟩
  obtain ⟨S, hS⟩ : ∃ S : Nat, n.S = (S : Int) := ⟨n.S.toNat, by omega⟩
  obtain ⟨T, hT⟩ : ∃ T : Nat, n.T = (T : Int) := ⟨n.T.toNat, by omega⟩
  have hSn : S < ns := by omega
  have hTn : T < ns := by omega
  obtain ⟨kz, oz, cz, rfl, rS⟩ := hZ.at hSn
  obtain ⟨kz', oz', cz', e', rT⟩ := hZ.at hTn
  cases e'
  have hbb : b = (s S && !s T) := by
    rw [Bool.eq_iff_iff, hb]
    unfold CutP
    rw [hS, hT]
    simp [hc, hn]
  rw [hbb]
  rw [← hn, hS, hT] at g1 ⊢
  by_cases hsS : s S = true
  · rw [hsS] at rS
    refine wa_sr ⟨_, by simp -implicitDefEqProofs [g1, rS, rT, hSn, hTn]; rfl, ?_⟩
    exact wa_ret ⟨by simp, _, by simp; rfl, by simp [pack, hsS], _, by simp; rfl⟩
  · have hsS' : s S = false := by simpa using hsS
    rw [hsS'] at rS
    refine wa_sr ⟨_, by simp -implicitDefEqProofs [g1, rS, hSn]; rfl, ?_⟩
    exact wa_ret ⟨by simp, _, by simp; rfl, by simp [pack, hsS'], _, by simp; rfl⟩
theorem has_ok {z : V} {ns v : Nat} {s : Nat → Bool} {H : Heap} (hz : TB H z ns fun j => .bool (s j)) (hv : v < ns) : callL E (.f 120) [z, .int .i64 v] H = some (.bool (s v), H) := by
  have key : ∃ w H', callL E (.f 120) [z, .int .i64 v] H = some (w, H') ∧ w = .bool (s v) ∧ H' = H := by
    refine call_E rfl nc120 rfl ?_
    unfold gc120
    obtain ⟨kz, oz, cz, rfl, rz⟩ := hz.at0 hv
    refine wa_sr ⟨_, by simp; rfl, ?_⟩
    refine wa_sr ⟨_, by simp -implicitDefEqProofs [hv, rz]; rfl, ?_⟩
    exact wa_ret ⟨by simp, _, by simp; rfl, rfl, rfl⟩
  obtain ⟨w, H', h, rfl, rfl⟩ := key
  exact h
/-- What goes across: arc by arc. -/
theorem across_ok {l : List Ar.Arc} {a z : V} {ns k k1 k2 : Nat} {s : Nat → Bool} (I : Nat → Heap → Prop) (St : Heap → Prop) (hs : l.length ≤ 2 ^ 40) (hin : inN ns l)
    (hr : ∀ i H, I i H → rd H k1 3 = some a ∧ AL H a l ∧ rd H k2 0 = some z ∧ TB H z ns fun j => .bool (s j))
    (hal : ∀ i H b, I i H → I i (H ++ [b]))
    (skip : ∀ i H (hi : i < l.length), I i H → (∀ u v : Nat, l[i].src = u → l[i].dst = v → s u = s v) → I (i + 1) H)
    (step : ∀ i H (hi : i < l.length), I i H → ∀ u v : Nat, l[i].src = u → l[i].dst = v → s u ≠ s v → ∃ b H', callL E (.y k) [.int .i64 i, .bool (s u)] H = some (.bool b, H') ∧ (b = true → I (i + 1) H') ∧ (b = false → St H'))
    {H : Heap} (h0 : I 0 H) : ∃ v H', callL E (.f 119) [.yld k, .ptr k1 0, .ptr k2 0] H = some (v, H') ∧ (I l.length H' ∨ St H') := by
  refine call_E rfl nc119 rfl ?_
  unfold gc119
  obtain ⟨q1, q2, q3, q4⟩ := hr 0 H h0
  have hl : lenOf a = some l.length := Rw.len q2
  refine wa_sr ⟨_, by simp -implicitDefEqProofs [q1, hl]; rfl, ?_⟩
  refine wa_for (n := l.length) (fun i (_ : Unit) => [(0, .yld k), (1, .ptr k1 0), (2, .ptr k2 0), (8, a)]) (fun i _ H' => I i H') ()
    (by decide) (fun i hi => w64 (by omega) (by omega)) (by simp) (by simp) (by simp [Rg]) h0 (by simp) ?_ ?_
  · rintro i _ τ H2 hi t10 t9 ⟨t0, t1, t2, t8, -⟩ hI
    dsimp only [ev] at *
    obtain ⟨q1, q2, q3, q4⟩ := hr i H2 hI
    obtain ⟨ka, o, cc, rfl, hka, hrr, _⟩ := q2.at hi
    obtain ⟨u, v, e1, e2, hu, hv⟩ := hin _ (List.getElem_mem hi)
    have hI3 := hal i H2 (.cells l[i].cells .ex) hI
    have hsk := skip i _ hi hI3
    have hst := step i _ hi hI3
    generalize l[i] = ar at *
    obtain ⟨sr, ds, cp⟩ := ar
    dsimp only at e1 e2 hsk hst
    subst e1 e2
    simp only [Arc.cells] at hrr hI3 hsk hst
    have hre := hrr []
    rw [List.append_nil] at hre
    refine wa_sr ⟨_, by simp -implicitDefEqProofs [t8, t10, hi, hre]; rfl, ?_⟩
    obtain ⟨p1, p2, p3, p4⟩ := hr i _ hI3
    have c0 : ∀ o, rd (H2 ++ [Blk.cells [.int .i64 u, .int .i64 v, .int .i64 cp] .ex]) H2.length o = [V.int .i64 u, .int .i64 v, .int .i64 cp][o]? := fun o => by simp
    generalize H2 ++ [Blk.cells [.int .i64 u, .int .i64 v, .int .i64 cp] .ex] = H3 at *
    generalize H2.length = k5 at *
    have c00 := c0 0
    have c01 := c0 1
    simp only [List.getElem?_cons_zero, List.getElem?_cons_succ] at c00 c01
    have hu' := has_ok p4 hu
    have hv' := has_ok p4 hv
    refine wa_sr ⟨_, by simp -implicitDefEqProofs [t2, p3, c00, hu']; rfl, ?_⟩
    by_cases hne : s u = s v
    · have hb : (s u == s v) = true := by simpa using hne
      refine wa_sr ⟨_, by simp -implicitDefEqProofs [t2, p3, c01, hv', hne]; rfl, ?_⟩
      refine wa_cond (t := false) (by simp) (fun h => by cases h) (fun _ => wa_skip ?_)
      exact ⟨by simp [t10], by simp [t9], (), by simp [Rg, t0, t1, t2, t8], hsk fun u' v' h1 h2 => by
        have e1 : u' = u := by omega
        have e2 : v' = v := by omega
        rw [e1, e2]; exact hne⟩
    · have hb : (s u == s v) = false := by simpa using hne
      obtain ⟨b, H4, hy, hy1, hy2⟩ := hst u v rfl rfl hne
      refine wa_sr ⟨_, by simp -implicitDefEqProofs [t0, t2, t10, p3, c01, hv', hb, hy]; rfl, ?_⟩
      cases b with
      | true =>
        refine wa_cond (t := false) (by simp) (fun h => by cases h) (fun _ => wa_skip ?_)
        exact ⟨by simp [t10], by simp [t9], (), by simp [Rg, t0, t1, t2, t8], hy1 rfl⟩
      | false =>
        refine wa_cond (t := true) (by simp) (fun _ => wa_ret ?_) (fun h => by cases h)
        exact ⟨by simp, _, by simp; rfl, .inr (hy2 rfl)⟩
  · rintro _ τ H' _ hI
    exact ⟨by simp, _, by simp; rfl, .inl hI⟩

/-- A range over a function, its loop by a name. -/
theorem wa_rf {f : X} {ps : List Nat} {asg body : MC} {τ : Nat → V} {H : Heap} {Q : Ex → St → Prop} {g : Nat} {a b : List V} (hf : ev τ f = .fn g a b)
    (h : ∀ LB : LS → Blk, LB = (fun st => Blk.lp τ ps asg body st) → ∃ v H', callL E (.f g) (a ++ [.yld H.length] ++ b) (H ++ [LB .ready]) = some (v, H') ∧
      ∃ st, H'[H.length]? = some (LB st) ∧ (match st with | .ready => Q .normal ⟨τ, H'.set H.length .dead⟩ | .done e => Q e ⟨τ, H'.set H.length .dead⟩ | .busy => False)) :
    WP E (.rangef f ps asg body) ⟨τ, H⟩ Q := by
  obtain ⟨v, H', h1, st, h2, h3⟩ := h _ rfl
  exact wa_rangef hf ⟨v, H', h1, _, _, _, _, st, h2, h3⟩
theorem wa_rd {k : Nat} {H : Heap} {τ : Nat → V} {ps : List Nat} {asg body : MC} {args : List V} {R : Bool → Heap → Prop} {LB : LS → Blk} (hLB : LB = fun st => Blk.lp τ ps asg body st) (hk : H[k]? = some (LB .ready)) (hl : args.length = ps.length)
    (h : WP E asg ⟨setps τ ps args, H⟩ fun e s => e = .normal ∧ s.H = H ∧ WP E body ⟨s.τ, H.set k (LB .busy)⟩ fun e s2 => s2.H[k]? = some (LB .busy) ∧ R (decide (e = .normal)) (s2.H.set k (LB (if e = .normal then .ready else .done e)))) :
    ∃ b H', callL E (.y k) args H = some (.bool b, H') ∧ R b H' := by
  subst hLB
  refine wa_round hk hl (h.mono fun e s ⟨h1, h2, h3⟩ => ⟨h1, _, _, _, _, by rw [h2]; exact hk, ?_⟩)
  rw [h2]
  exact h3.mono fun e2 s2 ⟨h4, h5⟩ => ⟨_, _, _, _, h4, h5⟩
end Go.Proofs.Ytpojdgeginigjaa
/- Cuts: Cap, Across, Tight: the walks. -/
set_option linter.unusedSimpArgs false
set_option linter.unusedVariables false
namespace Go.Proofs.Ytpojdgeginigjaa
open Go Go.Ar
set_option maxRecDepth 100000

/-- Arc i goes out of a side, or into it. -/
def outS (s : Nat → Bool) (x : Ar.Arc) : Bool := s x.src.toNat && !s x.dst.toNat
def inS (s : Nat → Bool) (x : Ar.Arc) : Bool := s x.dst.toNat && !s x.src.toNat
def capC (l : List Ar.Arc) (s : Nat → Bool) : Nat → Int
  | 0 => 0
  | i + 1 => capC l s i + match l[i]? with | some x => (if outS s x = true then x.cap else 0) | none => 0
theorem capC_s {l : List Ar.Arc} {s : Nat → Bool} {i : Nat} (hi : i < l.length) : capC l s (i + 1) = capC l s i + (if outS s l[i] = true then l[i].cap else 0) := by
  simp only [capC, List.getElem?_eq_getElem hi]
theorem capC_b {l : List Ar.Arc} {s : Nat → Bool} (hc : ∀ x, x ∈ l → 0 ≤ x.cap) : ∀ i, i ≤ l.length → 0 ≤ capC l s i ∧ capC l s i ≤ capS (l.take i)
  | 0, _ => by simp [capC, capS]
  | i + 1, hi => by
    have ih := capC_b (s := s) hc i (by omega)
    have h1 := hc _ (List.getElem_mem (show i < l.length by omega))
    have e : l.take (i + 1) = l.take i ++ [l[i]'(by omega)] := by rw [List.take_add_one, List.getElem?_eq_getElem (by omega)]; rfl
    rw [e, capS_append, capC_s (by omega)]
    simp only [capS]
    split <;> omega
theorem capS_take_le (l : List Ar.Arc) (hc : ∀ x, x ∈ l → 0 ≤ x.cap) (i : Nat) : capS (l.take i) ≤ capS l := by
  have h3 := capS_append (l.take i) (l.drop i)
  rw [List.take_append_drop] at h3
  have h4 := capS_nonneg (l.drop i) fun x hx => hc x (List.mem_of_mem_drop hx)
  omega
theorem acr_ok {n : Net} {a z : V} (hz1 : z.scalar = true) (hz2 : z.cells = some [z]) (hl : lenOf a = some n.arcs.length) (H : Heap) : callL E (.f 82) [NV n a, z] H = some (.fn 119 [] [.ptr H.length 0, .ptr (H.length + 1) 0], H ++ [nbox n a, .cells [z] .ex]) := by
  have key : ∃ v H', callL E (.f 82) [NV n a, z] H = some (v, H') ∧ v = .fn 119 [] [.ptr H.length 0, .ptr (H.length + 1) 0] ∧ H' = H ++ [nbox n a, .cells [z] .ex] := by
    refine call_E rfl nc82 rfl ?_
    unfold gc82 NV
    refine wa_sr ⟨_, by simp [len_cells hl, hz2]; rfl, ?_⟩
    refine wa_sr ⟨_, by simp; rfl, ?_⟩
    exact wa_ret ⟨by simp, _, by simp; rfl, rfl, rfl⟩
  obtain ⟨v, H', h, rfl, rfl⟩ := key
  exact h

set_option maxHeartbeats 4000000 in
theorem cap_ok {n : Net} {a z : V} {ns : Nat} {s : Nat → Bool} {H : Heap} (h : AL H a n.arcs) (hz : TB H z ns fun j => .bool (s j)) (hc : CutP n ns s) :
    ∃ G, callL E (.f 35) [NV n a, z] H = some (.tup [.int .i64 (capC n.arcs s n.arcs.length), .int .i64 0], H ++ G) := by
  have key : ∃ v H', callL E (.f 35) [NV n a, z] H = some (v, H') ∧ ∃ G, v = .tup [.int .i64 (capC n.arcs s n.arcs.length), .int .i64 0] ∧ H' = H ++ G := by
    obtain ⟨vn, hvn, hv2, hv4, hlm, hin⟩ := chk_inN hc.1
    obtain ⟨_, _, _, _, hpos, hsum⟩ := chk_zero hc.1
    have hsum := ((sumOk_iff _).1 hsum).2
    unfold big at hsum
    obtain rfl : ns = vn := by have := hc.2.1; omega
    refine call_E rfl nc35 rfl ?_
    unfold gc35
    have hl : lenOf a = some n.arcs.length := Rw.len h
    obtain ⟨G1, g1⟩ := (pc_cut (b := true) (h.app [nbox n a]) (by omega) (hz.app [nbox n a]) (by simp [hc])).run
    have gb : (H ++ [nbox n a] ++ G1)[H.length]? = some (nbox n a) := by simp
    have hA := (h.app [nbox n a]).app G1
    have hZ := (hz.app [nbox n a]).app G1
    have hpre : ∃ G', H ++ [nbox n a] ++ G1 = H ++ G' := ⟨_, by simp; rfl⟩
    unfold NV nbox at g1
    have hz2 := len_cells hz.len
    have hz1 := len_scalar hz.len
    have h82 := fun H => acr_ok (n := n) hz1 hz2 hl H
    unfold NV at h82 ⊢
    refine wa_sr ⟨_, by simp [len_cells hl]; rfl, ?_⟩
    refine wa_sr ⟨_, by simp -implicitDefEqProofs [g1]; rfl, ?_⟩
    refine wa_if (t := false) (by simp) (fun h => by cases h) (fun _ => ?_)
    refine wa_rg [(1, z), (2, .ptr H.length 0)] (by simp [Rg]) ?_
    have hH : H ++ Blk.cells [.int .i64 n.N, .int .i64 n.S, .int .i64 n.T, a] .ex :: G1 = H ++ [nbox n a] ++ G1 := by simp [nbox]
    rw [hH]
    clear hH g1
    generalize H ++ [nbox n a] ++ G1 = HB at *
    rintro τ ⟨t1, t2, -⟩
    dsimp only at t1 t2
    refine wa_sr ⟨_, by simp; rfl, ?_⟩
    have b4 : ∀ X, rdn (HB ++ X) H.length 0 4 = some [.int .i64 n.N, .int .i64 n.S, .int .i64 n.T, a] := fun X => rdn_all gb rfl
    have b3 : ∀ X, rd (HB ++ X) H.length 3 = some a := fun X => rd_pre gb
    refine wa_sr ⟨_, by simp -implicitDefEqProofs [t1, t2, b4, h82]; rfl, ?_⟩
    refine wa_rg [(2, .ptr H.length 0), (6, .ptr HB.length 0), (15, .fn 119 [] [.ptr (HB.length + 1) 0, .ptr (HB.length + 2) 0])] (by simp [Rg, t2]) ?_
    clear t1 t2 τ
    rintro τ ⟨t2, t6, t15, -⟩
    dsimp only at t2 t6 t15
    refine wa_cut (fun s' => (∃ G, s'.H = HB ++ (.cells [.int .i64 (capC n.arcs s n.arcs.length)] .ex :: G)) ∧ s'.τ 6 = .ptr HB.length 0) ?_ ?_
    · refine wa_block (wa_rf (g := 119) (a := []) (b := [.ptr (HB.length + 1) 0, .ptr (HB.length + 2) 0]) (by simp [t15]) fun LB hLB => ?_)
      obtain ⟨v, H', hcall, hI | hF⟩ := across_ok (l := n.arcs) (a := a) (z := z) (ns := ns) (k := HB.length + 3) (k1 := HB.length + 1) (k2 := HB.length + 2) (s := s)
        (fun i H' => ∃ G, H' = HB ++ (.cells [.int .i64 (capC n.arcs s i)] .ex :: nbox n a :: .cells [z] .ex :: LB .ready :: G)) (fun _ => False) (by omega) hin
        (fun i H' ⟨G, hG⟩ => by
          subst hG
          exact ⟨by simp [nbox], hA.app _, by simp, hZ.app _⟩)
        (fun i H' b ⟨G, hG⟩ => ⟨G ++ [b], by rw [hG]; simp⟩)
        (fun i H' hi ⟨G, hG⟩ hsk => ⟨G, by
          obtain ⟨u, v, e1, e2, _⟩ := hin _ (List.getElem_mem hi)
          have h5 := hsk u v e1 e2
          have h6 : outS s n.arcs[i] = false := by simp [outS, e1, e2, h5]
          rw [capC_s hi, h6, hG]; simp⟩)
        (fun i H' hi ⟨G, hG⟩ u v e1 e2 hne => by
          subst hG
          obtain ⟨b, H'', h1, h2, h3⟩ := wa_rd (k := HB.length + 3) (H := HB ++ (.cells [.int .i64 (capC n.arcs s i)] .ex :: nbox n a :: .cells [z] .ex :: LB .ready :: G)) (args := [.int .i64 i, .bool (s u)])
            (R := fun b H'' => b = true ∧ ∃ G, H'' = HB ++ (.cells [.int .i64 (capC n.arcs s (i + 1))] .ex :: nbox n a :: .cells [z] .ex :: LB .ready :: G)) hLB (by simp) rfl (by
              refine wa_sr ⟨_, by simp [setps]; rfl, wa_regs ⟨_, by simp; rfl, rfl, rfl, ?_⟩⟩
              have hcs := capC_s (s := s) hi
              have hb1 := capC_b (s := s) hpos i (by omega)
              have hb2 := capC_b (s := s) hpos (i + 1) hi
              have hb3 := capS_take_le n.arcs hpos (i + 1)
              have ho : outS s n.arcs[i] = s u := by
                simp only [outS, e1, e2, Int.toNat_natCast]
                cases h5 : s u <;> cases h6 : s v <;> simp [h5, h6] at hne ⊢
              rw [ho] at hcs
              obtain ⟨qx, ox, cx, ex, hqx, rx, _⟩ := hA.at hi
              have rx2 : ∀ X, rd (HB ++ X) qx (ox + i * 3 + 2) = some (.int .i64 n.arcs[i].cap) := fun X => rd_of_rdn (rx X) (j := 2) (by omega)
              refine wa_block ?_
              refine wa_sr ⟨_, by simp; rfl, ?_⟩
              cases hsu : s u with
              | true =>
                rw [hsu, if_pos rfl] at hcs
                have hw : IntKind.i64.wrap (capC n.arcs s i + n.arcs[i].cap) = capC n.arcs s (i + 1) := by rw [hcs]; exact w64 (by omega) (by omega)
                refine wa_cond (t := true) (by simp) (fun _ => ?_) (fun h => by cases h)
                refine wa_drl rfl rfl ⟨_, by simp -implicitDefEqProofs [t2, t6, b3, ex, hi, rx2, hw]; rfl, ?_⟩
                exact ⟨by simp, by simp, G, by simp [ex]⟩
              | false =>
                rw [hsu] at hcs
                refine wa_cond (t := false) (by simp) (fun h => by cases h) (fun _ => wa_skip ?_)
                refine ⟨by simp, by simp, G, ?_⟩
                rw [hcs]; simp)
          exact ⟨b, H'', h1, fun _ => h3, fun h => by rw [h2] at h; cases h⟩) (H := HB ++ (.cells [.int .i64 0] .ex :: nbox n a :: .cells [z] .ex :: [LB .ready])) ⟨[], by simp [capC]⟩
      · obtain ⟨G, rfl⟩ := hI
        have hlen : (HB ++ [Blk.cells [.int .i64 0] .ex, nbox n a, .cells [z] .ex]).length = HB.length + 3 := by simp
        refine ⟨v, HB ++ (.cells [.int .i64 (capC n.arcs s n.arcs.length)] .ex :: nbox n a :: .cells [z] .ex :: LB .ready :: G), by rw [hlen]; simpa using hcall, .ready, by rw [hlen]; simp, ?_⟩
        rw [hlen]
        exact ⟨⟨_, by simp; rfl⟩, t6⟩
      · exact hF.elim
    · rintro ⟨τ', H'⟩ ⟨⟨G, h'⟩, t6'⟩
      dsimp only at h' t6'
      subst h'
      refine wa_sr ⟨_, by simp -implicitDefEqProofs [t6']; rfl, ?_⟩
      obtain ⟨G', rfl⟩ := hpre
      exact wa_ret ⟨by simp, _, by simp; rfl, _, rfl, by simp; rfl⟩
  obtain ⟨v, H', h1, G, rfl, rfl⟩ := key
  exact ⟨G, h1⟩
end Go.Proofs.Ytpojdgeginigjaa
/- Cuts: Across, Tight: the walks. -/
set_option linter.unusedSimpArgs false
set_option linter.unusedVariables false
namespace Go.Proofs.Ytpojdgeginigjaa
open Go Go.Ar
set_option maxRecDepth 100000

def acrF (l : List Ar.Arc) (s : Nat → Bool) (f : Nat → Int) : Nat → Int
  | 0 => 0
  | i + 1 => acrF l s f i + match l[i]? with | some x => (if outS s x = true then f i else if inS s x = true then -(f i) else 0) | none => 0
theorem acrF_s {l : List Ar.Arc} {s : Nat → Bool} {f : Nat → Int} {i : Nat} (hi : i < l.length) : acrF l s f (i + 1) = acrF l s f i + (if outS s l[i] = true then f i else if inS s l[i] = true then -(f i) else 0) := by
  simp only [acrF, List.getElem?_eq_getElem hi]
theorem acrF_b {l : List Ar.Arc} {s : Nat → Bool} {f : Nat → Int} : ∀ i, i ≤ l.length → (∀ j, j < i → 0 ≤ f j) → -(sumP f i) ≤ acrF l s f i ∧ acrF l s f i ≤ sumP f i
  | 0, _, _ => by simp [acrF, sumP]
  | i + 1, hi, h => by
    have ih := acrF_b (l := l) (s := s) (f := f) i (by omega) fun j hj => h j (by omega)
    have := h i (by omega)
    rw [acrF_s (by omega)]
    simp only [sumP]
    split
    · omega
    · split <;> omega
theorem out_in {s : Nat → Bool} {x : Ar.Arc} {u v : Nat} (h1 : x.src = u) (h2 : x.dst = v) (hne : s u ≠ s v) : outS s x = s u ∧ inS s x = !s u := by
  simp only [outS, inS, h1, h2, Int.toNat_natCast]
  cases h5 : s u <;> cases h6 : s v <;> simp [h5, h6] at hne ⊢
theorem out_eq {s : Nat → Bool} {x : Ar.Arc} {u v : Nat} (h1 : x.src = u) (h2 : x.dst = v) (he : s u = s v) : outS s x = false ∧ inS s x = false := by
  simp [outS, inS, h1, h2, he]

set_option maxHeartbeats 4000000 in
theorem acr_fn {n : Net} {a y z : V} {nf ns : Nat} {f : Nat → Int} {s : Nat → Bool} {H : Heap} (h : AL H a n.arcs) (hy : TB H y nf fun j => .int .i64 (f j)) (hz : TB H z ns fun j => .bool (s j)) (hc : CutP n ns s) (hw : WithinP n nf f) :
    ∃ G, callL E (.f 66) [NV n a, y, z] H = some (.tup [.int .i64 (acrF n.arcs s f n.arcs.length), .int .i64 0], H ++ G) := by
  have key : ∃ v H', callL E (.f 66) [NV n a, y, z] H = some (v, H') ∧ ∃ G, v = .tup [.int .i64 (acrF n.arcs s f n.arcs.length), .int .i64 0] ∧ H' = H ++ G := by
    obtain ⟨vn, hvn, hv2, hv4, hlm, hin⟩ := chk_inN hc.1
    have hws := within_sum hw
    obtain rfl : ns = vn := by have := hc.2.1; omega
    refine call_E rfl nc66 rfl ?_
    unfold gc66
    have hl : lenOf a = some n.arcs.length := Rw.len h
    obtain ⟨f1, g1⟩ := pc_cut (b := true) (h.app [nbox n a, .cells [y] .ex]) (by omega) (hz.app [nbox n a, .cells [y] .ex]) (by simp [hc])
    obtain ⟨f2, g2⟩ := pc_within (b := true) (h.app [nbox n a, .cells [y] .ex]) (by omega) (hy.app [nbox n a, .cells [y] .ex]) (by simp [hw])
    have g1e := g1 []
    rw [List.append_nil, List.nil_append] at g1e
    have g2e := g2 (f1 [])
    have gb : ∀ X, (H ++ [nbox n a, .cells [y] .ex] ++ X)[H.length]? = some (nbox n a) := fun X => by simp
    have gy : ∀ X, (H ++ [nbox n a, .cells [y] .ex] ++ X)[H.length + 1]? = some (.cells [y] .ex) := fun X => by simp
    have hA := (h.app [nbox n a, .cells [y] .ex]).app (f1 [] ++ f2 (f1 []))
    have hY := (hy.app [nbox n a, .cells [y] .ex]).app (f1 [] ++ f2 (f1 []))
    have hZ := (hz.app [nbox n a, .cells [y] .ex]).app (f1 [] ++ f2 (f1 []))
    have hpre : ∃ G', H ++ [nbox n a, .cells [y] .ex] ++ (f1 [] ++ f2 (f1 [])) = H ++ G' := ⟨_, by simp; rfl⟩
    have hz2 := len_cells hz.len
    have hz1 := len_scalar hz.len
    have h82 := fun H => acr_ok (n := n) hz1 hz2 hl H
    unfold NV at h82 g1e g2e ⊢
    refine wa_sr ⟨_, by simp [len_cells hl, len_cells hy.len]; rfl, ?_⟩
    refine wa_cut (fun s' => s'.H = H ++ [nbox n a, .cells [y] .ex] ++ (f1 [] ++ f2 (f1 [])) ∧ Rg s'.τ [(2, z), (3, .ptr H.length 0), (4, .ptr (H.length + 1) 0)]) ?_ ?_
    · change WP E _ ⟨_, H ++ [nbox n a, .cells [y] .ex]⟩ _
      have gbe := rdn_all (n := 4) (gb []) rfl (X := [])
      have gb2 := rdn_all (n := 4) (gb (f1 [])) rfl (X := [])
      have gy2 := rd_pre (o := 0) (gy (f1 [])) (X := [])
      simp only [List.append_nil] at gbe gb2 gy2
      generalize H ++ [nbox n a, .cells [y] .ex] = HA at *
      refine wa_block ?_
      refine wa_sr ⟨_, by simp -implicitDefEqProofs [gbe, g1e]; rfl, ?_⟩
      refine wa_cond (t := false) (by simp) (fun h => by cases h) (fun _ => ?_)
      refine wa_sr ⟨_, by simp -implicitDefEqProofs [gb2, gy2, g2e]; rfl, ?_⟩
      refine wa_cond (t := false) (by simp) (fun h => by cases h) (fun _ => wa_skip ?_)
      exact ⟨by simp, by simp [Rg]⟩
    have gb := gb (f1 [] ++ f2 (f1 []))
    have gy := gy (f1 [] ++ f2 (f1 []))
    clear g1 g2 g1e g2e
    generalize H ++ [nbox n a, .cells [y] .ex] ++ (f1 [] ++ f2 (f1 [])) = HB at *
    rintro ⟨τ, HX⟩ ⟨hHX, t2, t3, t4, -⟩
    dsimp only at hHX t2 t3 t4
    subst HX
    refine wa_sr ⟨_, by simp; rfl, ?_⟩
    have b4 : ∀ X, rdn (HB ++ X) H.length 0 4 = some [.int .i64 n.N, .int .i64 n.S, .int .i64 n.T, a] := fun X => rdn_all gb rfl
    have by4 : ∀ X, rd (HB ++ X) (H.length + 1) 0 = some y := fun X => rd_pre gy
    refine wa_sr ⟨_, by simp -implicitDefEqProofs [t2, t3, b4, h82]; rfl, ?_⟩
    refine wa_rg [(4, .ptr (H.length + 1) 0), (8, .ptr HB.length 0), (23, .fn 119 [] [.ptr (HB.length + 1) 0, .ptr (HB.length + 2) 0])] (by simp [Rg, t4]) ?_
    clear t2 t3 t4 τ
    rintro τ ⟨t4, t8, t23, -⟩
    dsimp only at t4 t8 t23
    obtain ⟨_, hnf, hwi⟩ := hw
    subst hnf
    refine wa_cut (fun s' => (∃ G, s'.H = HB ++ (.cells [.int .i64 (acrF n.arcs s f n.arcs.length)] .ex :: G)) ∧ s'.τ 8 = .ptr HB.length 0) ?_ ?_
    · refine wa_block (wa_rf (g := 119) (a := []) (b := [.ptr (HB.length + 1) 0, .ptr (HB.length + 2) 0]) (by simp [t23]) fun LB hLB => ?_)
      obtain ⟨v, H', hcall, hI | hF⟩ := across_ok (l := n.arcs) (a := a) (z := z) (ns := ns) (k := HB.length + 3) (k1 := HB.length + 1) (k2 := HB.length + 2) (s := s)
        (fun i H' => ∃ G, H' = HB ++ (.cells [.int .i64 (acrF n.arcs s f i)] .ex :: nbox n a :: .cells [z] .ex :: LB .ready :: G)) (fun _ => False) (by omega) hin
        (fun i H' ⟨G, hG⟩ => by
          subst hG
          exact ⟨by simp [nbox], hA.app _, by simp, hZ.app _⟩)
        (fun i H' b ⟨G, hG⟩ => ⟨G ++ [b], by rw [hG]; simp⟩)
        (fun i H' hi ⟨G, hG⟩ hsk => ⟨G, by
          obtain ⟨u, v, e1, e2, _⟩ := hin _ (List.getElem_mem hi)
          obtain ⟨h6, h7⟩ := out_eq e1 e2 (hsk u v e1 e2)
          rw [acrF_s hi, h6, h7, hG]; simp⟩)
        (fun i H' hi ⟨G, hG⟩ u v e1 e2 hne => by
          subst hG
          obtain ⟨b, H'', h1, h2, h3⟩ := wa_rd (k := HB.length + 3) (H := HB ++ (.cells [.int .i64 (acrF n.arcs s f i)] .ex :: nbox n a :: .cells [z] .ex :: LB .ready :: G)) (args := [.int .i64 i, .bool (s u)])
            (R := fun b H'' => b = true ∧ ∃ G, H'' = HB ++ (.cells [.int .i64 (acrF n.arcs s f (i + 1))] .ex :: nbox n a :: .cells [z] .ex :: LB .ready :: G)) hLB (by simp) rfl (by
              refine wa_sr ⟨_, by simp [setps]; rfl, wa_regs ⟨_, by simp; rfl, rfl, rfl, ?_⟩⟩
              have hcs := acrF_s (s := s) (f := f) hi
              have hb1 := acrF_b (l := n.arcs) (s := s) (f := f) i (by omega) fun j hj => (hwi j (by omega)).1
              have hb2 := hws (i + 1) hi
              have hfi := (hwi i hi).1
              simp only [sumP] at hb2
              obtain ⟨ho, hn⟩ := out_in e1 e2 hne
              rw [ho, hn] at hcs
              obtain ⟨qy, oy, cy, ey, ry⟩ := hY.at hi
              refine wa_block ?_
              refine wa_sr ⟨_, by simp; rfl, ?_⟩
              cases hsu : s u with
              | true =>
                rw [hsu, if_pos rfl] at hcs
                have hw : IntKind.i64.wrap (acrF n.arcs s f i + f i) = acrF n.arcs s f (i + 1) := by rw [hcs]; exact w64 (by omega) (by omega)
                refine wa_cond (t := true) (by simp) (fun _ => ?_) (fun h => by cases h)
                refine wa_drl rfl rfl ⟨_, by simp -implicitDefEqProofs [t4, t8, by4, ey, hi, ry, hw]; rfl, ?_⟩
                exact ⟨by simp, by simp, G, by simp⟩
              | false =>
                rw [hsu] at hcs
                have hcs' : acrF n.arcs s f (i + 1) = acrF n.arcs s f i - f i := by have := hcs; simp at this; omega
                have hw : IntKind.i64.wrap (acrF n.arcs s f i - f i) = acrF n.arcs s f (i + 1) := by rw [hcs']; exact w64 (by omega) (by omega)
                refine wa_cond (t := false) (by simp) (fun h => by cases h) (fun _ => ?_)
                refine wa_drl rfl rfl ⟨_, by simp -implicitDefEqProofs [t4, t8, by4, ey, hi, ry, hw]; rfl, ?_⟩
                exact ⟨by simp, by simp, G, by simp⟩)
          exact ⟨b, H'', h1, fun _ => h3, fun h => by rw [h2] at h; cases h⟩) (H := HB ++ (.cells [.int .i64 0] .ex :: nbox n a :: .cells [z] .ex :: [LB .ready])) ⟨[], by simp [acrF]⟩
      · obtain ⟨G, rfl⟩ := hI
        have hlen : (HB ++ [Blk.cells [.int .i64 0] .ex, nbox n a, .cells [z] .ex]).length = HB.length + 3 := by simp
        refine ⟨v, HB ++ (.cells [.int .i64 (acrF n.arcs s f n.arcs.length)] .ex :: nbox n a :: .cells [z] .ex :: LB .ready :: G), by rw [hlen]; simpa using hcall, .ready, by rw [hlen]; simp, ?_⟩
        rw [hlen]
        exact ⟨⟨_, by simp; rfl⟩, t8⟩
      · exact hF.elim
    · rintro ⟨τ', H'⟩ ⟨⟨G, h'⟩, t8'⟩
      dsimp only at h' t8'
      subst h'
      refine wa_sr ⟨_, by simp -implicitDefEqProofs [t8']; rfl, ?_⟩
      obtain ⟨G', rfl⟩ := hpre
      exact wa_ret ⟨by simp, _, by simp; rfl, _, rfl, by simp; rfl⟩
  obtain ⟨v, H', h1, G, rfl, rfl⟩ := key
  exact ⟨G, h1⟩

theorem cap_bad {n : Net} {a z : V} {ns : Nat} {s : Nat → Bool} {H : Heap} (h : AL H a n.arcs) (hs : n.arcs.length ≤ 2 ^ 40) (hz : TB H z ns fun j => .bool (s j)) (hc : ¬ CutP n ns s) :
    ∃ G, callL E (.f 35) [NV n a, z] H = some (.tup [.int .i64 0, .int .i64 2], H ++ G) := by
  have key : ∃ v H', callL E (.f 35) [NV n a, z] H = some (v, H') ∧ ∃ G, v = .tup [.int .i64 0, .int .i64 2] ∧ H' = H ++ G := by
    refine call_E rfl nc35 rfl ?_
    unfold gc35
    have hl : lenOf a = some n.arcs.length := Rw.len h
    obtain ⟨G1, g1⟩ := (pc_cut (b := false) (h.app [nbox n a]) hs (hz.app [nbox n a]) (by simp [hc])).run
    unfold NV nbox at g1
    unfold NV
    refine wa_sr ⟨_, by simp [len_cells hl]; rfl, ?_⟩
    refine wa_sr ⟨_, by simp -implicitDefEqProofs [g1]; rfl, ?_⟩
    refine wa_if (t := true) (by simp) (fun _ => ?_) (fun h => by cases h)
    refine wa_sr ⟨_, by simp; rfl, ?_⟩
    exact wa_rt ⟨by simp, _, by simp; rfl, _, rfl, by simp; rfl⟩
  obtain ⟨v, H', h1, G, rfl, rfl⟩ := key
  exact ⟨G, h1⟩
theorem acr_bad {n : Net} {a y z : V} {ns : Nat} {s : Nat → Bool} {H : Heap} (h : AL H a n.arcs) (hs : n.arcs.length ≤ 2 ^ 40) (hy : y.cells = some [y]) (hz : TB H z ns fun j => .bool (s j)) (hc : ¬ CutP n ns s) :
    ∃ G, callL E (.f 66) [NV n a, y, z] H = some (.tup [.int .i64 0, .int .i64 2], H ++ G) := by
  have key : ∃ v H', callL E (.f 66) [NV n a, y, z] H = some (v, H') ∧ ∃ G, v = .tup [.int .i64 0, .int .i64 2] ∧ H' = H ++ G := by
    refine call_E rfl nc66 rfl ?_
    unfold gc66
    have hl : lenOf a = some n.arcs.length := Rw.len h
    obtain ⟨G1, g1⟩ := (pc_cut (b := false) (h.app [nbox n a, .cells [y] .ex]) hs (hz.app [nbox n a, .cells [y] .ex]) (by simp [hc])).run
    unfold NV nbox at g1
    unfold NV
    refine wa_sr ⟨_, by simp [len_cells hl, hy]; rfl, ?_⟩
    refine wa_seq (wa_block ?_)
    refine wa_sr ⟨_, by simp -implicitDefEqProofs [g1]; rfl, ?_⟩
    refine wa_cond (t := true) (by simp) (fun _ => ?_) (fun h => by cases h)
    refine wa_sr ⟨_, by simp; rfl, ?_⟩
    exact wa_ret ⟨by simp, _, by simp; rfl, _, rfl, by simp; rfl⟩
  obtain ⟨v, H', h1, G, rfl, rfl⟩ := key
  exact ⟨G, h1⟩
/-- A cut is tight: all that may go out does, nothing comes in. -/
def TightP (n : Net) (nf ns : Nat) (f : Nat → Int) (s : Nat → Bool) : Prop := CutP n ns s ∧ WithinP n nf f ∧ ∀ i (hi : i < n.arcs.length), (outS s n.arcs[i] = true → n.arcs[i].cap ≤ f i) ∧ (inS s n.arcs[i] = true → f i ≤ 0)

set_option maxHeartbeats 4000000 in
theorem tight_ok {n : Net} {a y z : V} {nf ns : Nat} {f : Nat → Int} {s : Nat → Bool} {H : Heap} (h : AL H a n.arcs) (hs : n.arcs.length ≤ 2 ^ 40) (hy : TB H y nf fun j => .int .i64 (f j)) (hz : TB H z ns fun j => .bool (s j)) {b : Bool} (hb : b = true ↔ TightP n nf ns f s) :
    ∃ G, callL E (.f 67) [NV n a, y, z] H = some (.bool b, H ++ G) := by
  have key : ∃ v H', callL E (.f 67) [NV n a, y, z] H = some (v, H') ∧ ∃ G, v = .bool b ∧ H' = H ++ G := by
    refine call_E rfl nc67 rfl ?_
    unfold gc67
    have hl : lenOf a = some n.arcs.length := Rw.len h
    have hA0 := h.app [nbox n a, .cells [y] .ex, .cells [.bool false] .ex]
    have hY0 := hy.app [nbox n a, .cells [y] .ex, .cells [.bool false] .ex]
    have hZ0 := hz.app [nbox n a, .cells [y] .ex, .cells [.bool false] .ex]
    unfold NV
    refine wa_sr ⟨_, by simp [len_cells hl, len_cells hy.len]; rfl, ?_⟩
    change WP E _ ⟨_, H ++ [nbox n a, .cells [y] .ex, .cells [.bool false] .ex]⟩ _
    have gb : ∀ X, (H ++ [nbox n a, .cells [y] .ex, .cells [.bool false] .ex] ++ X)[H.length]? = some (nbox n a) := fun X => by simp
    have gy : ∀ X, (H ++ [nbox n a, .cells [y] .ex, .cells [.bool false] .ex] ++ X)[H.length + 1]? = some (.cells [y] .ex) := fun X => by simp
    have gt : ∀ X, (H ++ [nbox n a, .cells [y] .ex, .cells [.bool false] .ex] ++ X)[H.length + 2]? = some (.cells [.bool false] .ex) := fun X => by simp
    have hHA := Hp.app H [nbox n a, .cells [y] .ex, .cells [.bool false] .ex]
    generalize H ++ [nbox n a, .cells [y] .ex, .cells [.bool false] .ex] = HA at *
    have gbe := rdn_all (n := 4) (gb []) rfl (X := [])
    simp only [List.append_nil] at gbe
    refine wa_rg [(2, z), (3, .ptr H.length 0), (4, .ptr (H.length + 1) 0), (6, .ptr (H.length + 2) 0)] (by simp [Rg]) ?_
    rintro τ ⟨t2, t3, t4, t6, -⟩
    dsimp only at t2 t3 t4 t6
    -- no
    have bad : ∀ X τ' r, τ' 6 = .ptr (H.length + 2) 0 → b = false → WP E (.seq (.reg [⟨none, .store 1 (.t 6) (.c (.bool false)), none⟩]) (.seq .ret r)) ⟨τ', HA ++ X⟩ (fun e s' => (∀ i, e ≠ .exit i) ∧ ∃ vs, resL s'.τ s'.H [.c 6 1 false] = some vs ∧ ∃ G, pack vs = .bool b ∧ s'.H = H ++ G) := fun X τ' r t6 hbf => by
      have w : wr (HA ++ X) (H.length + 2) 0 [.bool false] = some ((HA ++ X).set (H.length + 2) (.cells [.bool false] .ex)) := wr1 (o := 0) (v := .bool false) (gt X) rfl (by simp) rfl
      refine wa_sr ⟨_, by simp -implicitDefEqProofs [t6, w]; rfl, ?_⟩
      have hg : ((HA ++ X).set (H.length + 2) (.cells [.bool false] .ex))[H.length + 2]? = some (.cells [.bool false] .ex) := List.getElem?_set_self (lt_of_get (gt X))
      obtain ⟨G, hG⟩ := (Hp_set (hHA.x (Hp.app HA X)) (show H.length ≤ H.length + 2 by omega) (.cells [.bool false] .ex)).eq
      refine wa_rt ⟨by simp, _, by simp -implicitDefEqProofs [t6, rd_get hg]; rfl, G, by rw [hbf]; rfl, hG⟩
    by_cases hc : CutP n ns s
    case neg =>
      have hbf : b = false := by rw [← Bool.not_eq_true, hb]; exact fun h => hc h.1
      obtain ⟨G1, g1⟩ := (pc_cut (b := false) hA0 hs hZ0 (by simp [hc])).run
      unfold NV at g1
      refine wa_sr ⟨_, by simp -implicitDefEqProofs [t2, t3, gbe, g1]; rfl, ?_⟩
      refine wa_if (t := true) (by simp) (fun _ => ?_) (fun h => by cases h)
      exact bad _ _ _ (by simp [t6]) hbf
    obtain ⟨G1, g1⟩ := (pc_cut (b := true) hA0 hs hZ0 (by simp [hc])).run
    unfold NV at g1
    have gb1 := rdn_all (n := 4) (gb G1) rfl (X := [])
    have gy1 := rd_pre (o := 0) (gy G1) (X := [])
    simp only [List.append_nil] at gb1 gy1
    by_cases hw : WithinP n nf f
    case neg =>
      have hbf : b = false := by rw [← Bool.not_eq_true, hb]; exact fun h => hw h.2.1
      obtain ⟨G2, g2⟩ := (pc_within (b := false) (hA0.app G1) hs (hY0.app G1) (by simp [hw])).run
      unfold NV at g2
      refine wa_sr ⟨_, by simp -implicitDefEqProofs [t2, t3, t4, gbe, g1, gb1, gy1, g2]; rfl, ?_⟩
      refine wa_if (t := true) (by simp) (fun _ => ?_) (fun h => by cases h)
      exact bad _ _ _ (by simp [t6]) hbf
    obtain ⟨G2, g2⟩ := (pc_within (b := true) (hA0.app G1) hs (hY0.app G1) (by simp [hw])).run
    unfold NV at g2
    refine wa_sr ⟨_, by simp -implicitDefEqProofs [t2, t3, t4, gbe, g1, gb1, gy1, g2]; rfl, ?_⟩
    refine wa_if (t := false) (by simp) (fun h => by cases h) (fun _ => ?_)
    obtain ⟨vn, hvn, hv2, hv4, hlm, hin⟩ := chk_inN hc.1
    obtain rfl : ns = vn := by have := hc.2.1; omega
    obtain ⟨_, hnf, hwi⟩ := hw
    subst hnf
    refine wa_rg [(2, z), (3, .ptr H.length 0), (4, .ptr (H.length + 1) 0), (6, .ptr (H.length + 2) 0)] (by simp [Rg, t2, t3, t4, t6]) ?_
    have gb := gb (G1 ++ G2)
    have gy := gy (G1 ++ G2)
    have gt := gt (G1 ++ G2)
    have hA := hA0.app (G1 ++ G2)
    have hY := hY0.app (G1 ++ G2)
    have hZ := hZ0.app (G1 ++ G2)
    have hHB := hHA.x (Hp.app HA (G1 ++ G2))
    clear t2 t3 t4 t6 τ g1 g2 gb1 gy1 gbe bad hA0 hY0 hZ0 hHA
    generalize HA ++ (G1 ++ G2) = HB at *
    rintro τ ⟨t2, t3, t4, t6, -⟩
    dsimp only at t2 t3 t4 t6
    have hz2 := len_cells hz.len
    have hz1 := len_scalar hz.len
    have h82 := fun H => acr_ok (n := n) hz1 hz2 hl H
    unfold NV at h82
    have b4 : ∀ X, rdn (HB ++ X) H.length 0 4 = some [.int .i64 n.N, .int .i64 n.S, .int .i64 n.T, a] := fun X => rdn_all gb rfl
    have b4e := b4 []
    simp only [List.append_nil] at b4e
    have b3 : ∀ X, rd (HB ++ X) H.length 3 = some a := fun X => rd_pre gb
    have by4 : ∀ X, rd (HB ++ X) (H.length + 1) 0 = some y := fun X => rd_pre gy
    refine wa_sr ⟨_, by simp -implicitDefEqProofs [t2, t3, b4e, h82]; rfl, ?_⟩
    refine wa_rg [(3, .ptr H.length 0), (4, .ptr (H.length + 1) 0), (6, .ptr (H.length + 2) 0), (21, .fn 119 [] [.ptr HB.length 0, .ptr (HB.length + 1) 0])] (by simp [Rg, t3, t4, t6]) ?_
    clear t2 t3 t4 t6 τ
    rintro τ ⟨t3, t4, t6, t21, -⟩
    dsimp only at t3 t4 t6 t21
    have lkt := lt_of_get gt
    have wt : ∀ X v, wr (HB ++ X) (H.length + 2) 0 [.bool v] = some (HB.set (H.length + 2) (.cells [.bool v] .ex) ++ X) := fun X v => by
      rw [wr1 (o := 0) (v := .bool v) (get_pre gt) rfl (by simp) rfl, List.set_append_left _ _ lkt]; rfl
    have fin : ∀ X v, b = v → ∃ vs, (match rd (HB.set (H.length + 2) (.cells [.bool v] .ex) ++ X) (H.length + 2) 0 with | some w => some [w] | none => none) = some vs ∧ ∃ G, pack vs = .bool b ∧ HB.set (H.length + 2) (.cells [.bool v] .ex) ++ X = H ++ G := fun X v hv => by
      obtain ⟨G, hG⟩ := (Hp_set hHB (show H.length ≤ H.length + 2 by omega) (.cells [.bool v] .ex)).eq
      exact ⟨[.bool v], by rw [rd_pre (List.getElem?_set_self lkt)]; rfl, G ++ X, by rw [hv]; rfl, by rw [hG, List.append_assoc]⟩
    have hlB : (HB.set (H.length + 2) (.cells [.bool false] .ex)).length = HB.length := by simp
    refine wa_cut (fun s' => b = true ∧ (∃ G, s'.H = HB ++ G) ∧ s'.τ 6 = .ptr (H.length + 2) 0) ?_ ?_
    · refine wa_block (wa_rf (g := 119) (a := []) (b := [.ptr HB.length 0, .ptr (HB.length + 1) 0]) (by simp [t21]) fun LB hLB => ?_)
      obtain ⟨v, H', hcall, hI | hF⟩ := across_ok (l := n.arcs) (a := a) (z := z) (ns := ns) (k := HB.length + 2) (k1 := HB.length) (k2 := HB.length + 1) (s := s)
        (fun i H' => (∀ j (hj : j < n.arcs.length), j < i → (outS s n.arcs[j] = true → n.arcs[j].cap ≤ f j) ∧ (inS s n.arcs[j] = true → f j ≤ 0)) ∧ ∃ G, H' = HB ++ (nbox n a :: .cells [z] .ex :: LB .ready :: G))
        (fun H' => b = false ∧ ∃ G, H' = HB.set (H.length + 2) (.cells [.bool false] .ex) ++ (nbox n a :: .cells [z] .ex :: LB (.done .ret) :: G)) (by omega) hin
        (fun i H' ⟨_, G, hG⟩ => by
          subst hG
          exact ⟨by simp [nbox], hA.app _, by simp, hZ.app _⟩)
        (fun i H' b ⟨h0, G, hG⟩ => ⟨h0, G ++ [b], by rw [hG]; simp⟩)
        (fun i H' hi ⟨h0, G, hG⟩ hsk => ⟨fun j hj hji => by
          by_cases e : j = i
          · subst e
            obtain ⟨u, v, e1, e2, _⟩ := hin _ (List.getElem_mem hi)
            obtain ⟨h6, h7⟩ := out_eq e1 e2 (hsk u v e1 e2)
            rw [h6, h7]
            exact ⟨fun h => (by cases h), fun h => (by cases h)⟩
          · exact h0 j hj (by omega), G, hG⟩)
        (fun i H' hi ⟨h0, G, hG⟩ u v e1 e2 hne => by
          subst hG
          obtain ⟨bb, H'', h1, h2⟩ := wa_rd (k := HB.length + 2) (H := HB ++ (nbox n a :: .cells [z] .ex :: LB .ready :: G)) (args := [.int .i64 i, .bool (s u)])
            (R := fun bb H'' => (bb = true → (∀ j (hj : j < n.arcs.length), j < i + 1 → (outS s n.arcs[j] = true → n.arcs[j].cap ≤ f j) ∧ (inS s n.arcs[j] = true → f j ≤ 0)) ∧ ∃ G, H'' = HB ++ (nbox n a :: .cells [z] .ex :: LB .ready :: G)) ∧ (bb = false → b = false ∧ ∃ G, H'' = HB.set (H.length + 2) (.cells [.bool false] .ex) ++ (nbox n a :: .cells [z] .ex :: LB (.done .ret) :: G))) hLB (by simp) rfl (by
              refine wa_sr ⟨_, by simp [setps]; rfl, wa_regs ⟨_, by simp; rfl, rfl, rfl, ?_⟩⟩
              obtain ⟨ho, hn⟩ := out_in e1 e2 hne
              obtain ⟨qy, oy, cy, ey, ry⟩ := hY.at hi
              obtain ⟨qx, ox, cx, ex, hqx, rx, _⟩ := hA.at hi
              have rx2 : ∀ X, rd (HB ++ X) qx (ox + i * 3 + 2) = some (.int .i64 n.arcs[i].cap) := fun X => rd_of_rdn (rx X) (j := 2) (by omega)
              have hst : ((outS s n.arcs[i] = true → n.arcs[i].cap ≤ f i) ∧ (inS s n.arcs[i] = true → f i ≤ 0)) → ∀ j (hj : j < n.arcs.length), j < i + 1 → (outS s n.arcs[j] = true → n.arcs[j].cap ≤ f j) ∧ (inS s n.arcs[j] = true → f j ≤ 0) := fun h5 j hj hji => by
                by_cases e : j = i
                · subst e; exact h5
                · exact h0 j hj (by omega)
              have hno : ¬ ((outS s n.arcs[i] = true → n.arcs[i].cap ≤ f i) ∧ (inS s n.arcs[i] = true → f i ≤ 0)) → b = false := fun h5 => by rw [← Bool.not_eq_true, hb]; exact fun h6 => h5 (h6.2.2 i hi)
              rw [ho, hn] at hst hno
              refine wa_block ?_
              have viol : ∀ τ' : Nat → V, τ' 6 = .ptr (H.length + 2) 0 → b = false → WP E (.seq (.reg [⟨none, .store 1 (.t 6) (.c (.bool false)), none⟩]) .ret) ⟨τ', HB ++ (nbox n a :: .cells [z] .ex :: LB .busy :: G)⟩ (InBlk 1 fun e s2 => s2.H[HB.length + 2]? = some (LB .busy) ∧ ((decide (e = .normal) = true → (∀ j (hj : j < n.arcs.length), j < i + 1 → (outS s n.arcs[j] = true → n.arcs[j].cap ≤ f j) ∧ (inS s n.arcs[j] = true → f j ≤ 0)) ∧ ∃ G, s2.H.set (HB.length + 2) (LB (if e = .normal then .ready else .done e)) = HB ++ (nbox n a :: .cells [z] .ex :: LB .ready :: G)) ∧ (decide (e = .normal) = false → b = false ∧ ∃ G, s2.H.set (HB.length + 2) (LB (if e = .normal then .ready else .done e)) = HB.set (H.length + 2) (.cells [.bool false] .ex) ++ (nbox n a :: .cells [z] .ex :: LB (.done .ret) :: G)))) := fun τ' t6 hbf => by
                refine wa_sr ⟨_, by simp -implicitDefEqProofs [t6, wt]; rfl, ?_⟩
                have q1 : ∀ X i, (HB.set (H.length + 2) (.cells [.bool false] .ex) ++ X)[HB.length + i]? = X[i]? := fun X i => by rw [List.getElem?_append_right (by simp)]; simp
                have q2 : ∀ X i bb, (HB.set (H.length + 2) (.cells [.bool false] .ex) ++ X).set (HB.length + i) bb = HB.set (H.length + 2) (.cells [.bool false] .ex) ++ X.set i bb := fun X i bb => by rw [List.set_append_right _ _ (by simp)]; simp
                refine wa_ret ?_
                refine ⟨by rw [q1]; rfl, fun h => (by simp at h), fun _ => ⟨hbf, G, by rw [q2]; rfl⟩⟩
              have hsimp : HB ++ nbox n a :: Blk.cells [z] .ex :: LB .busy :: G = (HB ++ nbox n a :: Blk.cells [z] .ex :: LB .ready :: G).set (HB.length + 2) (LB .busy) := by simp
              rw [← hsimp]
              have okk : ∀ τ' : Nat → V, ((outS s n.arcs[i] = true → n.arcs[i].cap ≤ f i) ∧ (inS s n.arcs[i] = true → f i ≤ 0)) → InBlk 1 (fun e s2 => s2.H[HB.length + 2]? = some (LB .busy) ∧ ((decide (e = .normal) = true → (∀ j (hj : j < n.arcs.length), j < i + 1 → (outS s n.arcs[j] = true → n.arcs[j].cap ≤ f j) ∧ (inS s n.arcs[j] = true → f j ≤ 0)) ∧ ∃ G, s2.H.set (HB.length + 2) (LB (if e = .normal then .ready else .done e)) = HB ++ (nbox n a :: .cells [z] .ex :: LB .ready :: G)) ∧ (decide (e = .normal) = false → b = false ∧ ∃ G, s2.H.set (HB.length + 2) (LB (if e = .normal then .ready else .done e)) = HB.set (H.length + 2) (.cells [.bool false] .ex) ++ (nbox n a :: .cells [z] .ex :: LB (.done .ret) :: G)))) .normal ⟨τ', HB ++ (nbox n a :: .cells [z] .ex :: LB .busy :: G)⟩ := fun τ' h5 => by
                rw [ho, hn] at h5
                exact ⟨by simp, fun _ => ⟨hst h5, G, by simp⟩, fun h => (by simp at h)⟩
              cases hsu : s u with
              | true =>
                rw [hsu] at ho hn hno
                by_cases hfc : f i < n.arcs[i].cap
                · refine wa_seq (wa_drl rfl rfl ⟨_, by simp -implicitDefEqProofs [t3, t4, by4, b3, ey, ex, hi, ry, rx2, hfc]; rfl, ?_⟩)
                  refine wa_cond (t := true) (by simp) (fun _ => ?_) (fun h => by cases h)
                  rw [← ex]
                  refine viol _ ?_ (hno fun h => absurd (h.1 rfl) (by omega))
                  simp [t6]
                · refine wa_seq (wa_drl rfl rfl ⟨_, by simp -implicitDefEqProofs [t3, t4, by4, b3, ey, ex, hi, ry, rx2, hfc]; rfl, ?_⟩)
                  refine wa_cond (t := false) (by simp) (fun h => by cases h) (fun _ => wa_skip ?_)
                  rw [← ex]
                  exact okk _ ⟨fun _ => by omega, fun h => (by rw [hn] at h; cases h)⟩
              | false =>
                rw [hsu] at ho hn hno
                by_cases hfc : 0 < f i
                · refine wa_seq (wa_drl rfl rfl ⟨_, by simp -implicitDefEqProofs [t3, t4, by4, b3, ey, ex, hi, ry, rx2, hfc]; rfl, ?_⟩)
                  refine wa_cond (t := true) (by simp) (fun _ => ?_) (fun h => by cases h)
                  rw [← ex]
                  refine viol _ ?_ (hno fun h => absurd (h.2 rfl) (by omega))
                  simp [t6]
                · refine wa_seq (wa_drl rfl rfl ⟨_, by simp -implicitDefEqProofs [t3, t4, by4, b3, ey, ex, hi, ry, rx2, hfc]; rfl, ?_⟩)
                  refine wa_cond (t := false) (by simp) (fun h => by cases h) (fun _ => wa_skip ?_)
                  rw [← ex]
                  exact okk _ ⟨fun h => (by rw [ho] at h; cases h), fun _ => by omega⟩)
          exact ⟨bb, H'', h1, h2.1, h2.2⟩) (H := HB ++ (nbox n a :: .cells [z] .ex :: [LB .ready])) ⟨fun j hj hj0 => by omega, [], by simp⟩
      · obtain ⟨h0, G, rfl⟩ := hI
        have hlen : (HB ++ [nbox n a, .cells [z] .ex]).length = HB.length + 2 := by simp
        refine ⟨v, HB ++ (nbox n a :: .cells [z] .ex :: LB .ready :: G), by rw [hlen]; simpa using hcall, .ready, by rw [hlen]; simp, ?_⟩
        rw [hlen]
        exact ⟨hb.2 ⟨hc, ⟨hc.1, rfl, hwi⟩, fun i hi => h0 i hi hi⟩, ⟨_, by simp; rfl⟩, t6⟩
      · obtain ⟨hbf, G, rfl⟩ := hF
        have hlen : (HB ++ [nbox n a, .cells [z] .ex]).length = HB.length + 2 := by simp
        have q1 : ∀ X i, (HB.set (H.length + 2) (.cells [.bool false] .ex) ++ X)[HB.length + i]? = X[i]? := fun X i => by rw [List.getElem?_append_right (by simp)]; simp
        have q2 : ∀ X i bb, (HB.set (H.length + 2) (.cells [.bool false] .ex) ++ X).set (HB.length + i) bb = HB.set (H.length + 2) (.cells [.bool false] .ex) ++ X.set i bb := fun X i bb => by rw [List.set_append_right _ _ (by simp)]; simp
        refine ⟨v, HB.set (H.length + 2) (.cells [.bool false] .ex) ++ (nbox n a :: .cells [z] .ex :: LB (.done .ret) :: G), by rw [hlen]; simpa using hcall, .done .ret, by rw [hlen, q1]; rfl, ?_⟩
        rw [hlen]
        dsimp only
        rw [q2]
        obtain ⟨vs, f1, f2⟩ := fin (nbox n a :: .cells [z] .ex :: .dead :: G) false hbf
        refine ⟨by simp, vs, ?_, f2⟩
        rw [← f1]
        simp only [resL, res1, t6, List.set_cons_succ, List.set_cons_zero]
        cases rd (HB.set (H.length + 2) (.cells [.bool false] .ex) ++ (nbox n a :: .cells [z] .ex :: .dead :: G)) (H.length + 2) 0 <;> rfl
    · rintro ⟨τ', H'⟩ ⟨hbt, ⟨G, h'⟩, t6'⟩
      dsimp only at h' t6'
      subst h'
      refine wa_sr ⟨_, by simp -implicitDefEqProofs [t6', wt]; rfl, ?_⟩
      obtain ⟨vs, f1, f2⟩ := fin G true hbt
      refine wa_ret ⟨by simp, vs, ?_, f2⟩
      rw [← f1]
      simp [t6']
      cases rd (HB.set (H.length + 2) (.cells [.bool true] .ex) ++ G) (H.length + 2) 0 <;> rfl
  obtain ⟨v, H', h1, G, rfl, rfl⟩ := key
  exact ⟨G, h1⟩
end Go.Proofs.Ytpojdgeginigjaa
