/- The flat code of functions. -/
import Derived.Test.YtpojdgeginigjaaMC
import Derived.Test.YtpojdgeginigjaaMH
import Derived.Test.YtpojdgeginigjaaMG
import Derived.Test.YtpojdgeginigjaaProg
import Derived.KernelRfl
set_option linter.unusedSimpArgs false
set_option linter.unusedVariables false
namespace Go.Proofs.Ytpojdgeginigjaa
open Go Go.Ar
set_option maxRecDepth 100000
def gc33 : MC := (.seq (.reg [⟨(.some 2), (.box 4 (.t 0)), .none⟩, ⟨(.some 4), (.mv (.c .nils)), .none⟩, ⟨(.some 5), (.mv (.c (.int .i64 0))), .none⟩]) (.seq (.reg [⟨(.some 10), (.load 4 .true (.t 2)), .none⟩, ⟨(.some 11), (.mv (.t 1)), .none⟩, ⟨(.some 12), (.call (.c (.fn 78 [] [])) [(.t 10), (.t 11)]), .none⟩, ⟨(.some 9), (.mv (.t 12)), .none⟩, ⟨(.some 13), (.ext (.t 9) 0), .none⟩, ⟨(.some 14), (.ext (.t 9) 1), .none⟩, ⟨(.some 15), (.ext (.t 9) 2), .none⟩, ⟨(.some 6), (.alloc [(.int .i64 0), (.int .i64 0), (.int .i64 0), .nils, .nils, .nils, .nils, .nils, .nils]), .none⟩, ⟨(.some 7), (.alloc [.nils]), .none⟩, ⟨.none, (.store 9 (.t 6) (.t 13)), .none⟩, ⟨.none, (.store 1 (.t 7) (.t 14)), .none⟩, ⟨(.some 8), (.mv (.t 15)), .none⟩]) (.seq (.reg [⟨(.some 16), (.mv (.t 8)), .none⟩, ⟨(.some 17), (.bin .neq (.t 16) (.c (.int .i64 0))), .none⟩]) (.seq (.cond (.t 17) (.seq (.reg [⟨(.some 18), (.mv (.t 8)), .none⟩, ⟨(.some 4), (.mv (.c .nils)), .none⟩, ⟨(.some 5), (.mv (.t 18)), .none⟩]) .ret) .skip) (.seq (.reg [⟨(.some 19), (.load 9 .true (.t 6)), .none⟩, ⟨(.some 20), (.fadr 1 (.t 2)), .none⟩, ⟨(.some 21), (.load 1 .false (.t 20)), .none⟩, ⟨(.some 22), (.mkfn 80 [] [(.t 7)]), .none⟩, ⟨(.some 23), (.call (.c (.fn 79 [] [])) [(.t 19), (.t 21), (.t 22)]), .none⟩, ⟨(.some 4), (.mv (.t 23)), .none⟩, ⟨(.some 5), (.mv (.c (.int .i64 0))), .none⟩]) .ret)))))
theorem nc33 : nc Try.prog 33 = some (2, [(.t 4), (.t 5)], gc33) := by kernel_rfl
def gc43 : MC := (.seq (.reg [⟨(.some 2), (.box 4 (.t 0)), .none⟩, ⟨(.some 4), (.mv (.c .nils)), .none⟩, ⟨(.some 5), (.mv (.c (.int .i64 0))), .none⟩]) (.seq (.reg [⟨(.some 12), (.load 4 .true (.t 2)), .none⟩, ⟨(.some 13), (.mv (.t 1)), .none⟩, ⟨(.some 14), (.call (.c (.fn 78 [] [])) [(.t 12), (.t 13)]), .none⟩, ⟨(.some 11), (.mv (.t 14)), .none⟩, ⟨(.some 15), (.ext (.t 11) 0), .none⟩, ⟨(.some 16), (.ext (.t 11) 1), .none⟩, ⟨(.some 17), (.ext (.t 11) 2), .none⟩, ⟨(.some 6), (.alloc [(.int .i64 0), (.int .i64 0), (.int .i64 0), .nils, .nils, .nils, .nils, .nils, .nils]), .none⟩, ⟨(.some 7), (.alloc [.nils]), .none⟩, ⟨.none, (.store 9 (.t 6) (.t 15)), .none⟩, ⟨.none, (.store 1 (.t 7) (.t 16)), .none⟩, ⟨(.some 8), (.mv (.t 17)), .none⟩]) (.seq (.reg [⟨(.some 18), (.mv (.t 8)), .none⟩, ⟨(.some 19), (.bin .neq (.t 18) (.c (.int .i64 0))), .none⟩]) (.seq (.cond (.t 19) (.seq (.reg [⟨(.some 20), (.mv (.t 8)), .none⟩, ⟨(.some 4), (.mv (.c .nils)), .none⟩, ⟨(.some 5), (.mv (.t 20)), .none⟩]) .ret) .skip) (.seq (.reg [⟨(.some 21), (.load 9 .true (.t 6)), .none⟩, ⟨(.some 22), (.fadr 2 (.t 2)), .none⟩, ⟨(.some 23), (.load 1 .false (.t 22)), .none⟩, ⟨(.some 24), (.mkfn 88 [] [(.t 7), (.t 6)]), .none⟩, ⟨(.some 25), (.call (.c (.fn 79 [] [])) [(.t 21), (.t 23), (.t 24)]), .none⟩, ⟨(.some 9), (.mv (.t 25)), .none⟩]) (.seq (.reg [⟨(.some 26), (.mv (.t 9)), .none⟩, ⟨(.some 27), (.len (.t 26)), .none⟩, ⟨(.some 28), (.mv (.c (.int .i64 0))), .none⟩]) (.seq (.block 0 (.loop (.seq (.reg [⟨(.some 29), (.bin .lss (.t 28) (.t 27)), .none⟩]) (.seq (.cond (.t 29) .skip (.exit 0)) (.seq (.block 1 (.seq (.reg [⟨(.some 30), (.mv (.t 28)), .none⟩, ⟨(.some 10), (.mv (.t 30)), .none⟩]) (.reg [⟨(.some 31), (.mv (.t 9)), .none⟩, ⟨(.some 32), (.mv (.t 10)), .none⟩, ⟨(.some 33), (.mv (.t 9)), .none⟩, ⟨(.some 34), (.mv (.t 10)), .none⟩, ⟨(.some 35), (.iadr 1 (.t 33) (.t 34)), .none⟩, ⟨(.some 36), (.load 1 .false (.t 35)), .none⟩, ⟨(.some 37), (.not (.t 36)), .none⟩, ⟨(.some 38), (.iadr 1 (.t 31) (.t 32)), .none⟩, ⟨.none, (.store 1 (.t 38) (.t 37)), .none⟩]))) (.reg [⟨(.some 39), (.bin .add (.t 28) (.c (.int .i64 1))), .none⟩, ⟨(.some 28), (.mv (.t 39)), .none⟩])))))) (.seq (.reg [⟨(.some 40), (.mv (.t 9)), .none⟩, ⟨(.some 4), (.mv (.t 40)), .none⟩, ⟨(.some 5), (.mv (.c (.int .i64 0))), .none⟩]) .ret))))))))
theorem nc43 : nc Try.prog 43 = some (2, [(.t 4), (.t 5)], gc43) := by kernel_rfl
def gc78 : MC := (.seq (.reg [⟨(.some 2), (.box 4 (.t 0)), .none⟩, ⟨(.some 4), (.alloc [(.int .i64 0), (.int .i64 0), (.int .i64 0), .nils, .nils, .nils, .nils, .nils, .nils]), .none⟩, ⟨(.some 5), (.mv (.c .nils)), .none⟩, ⟨(.some 6), (.mv (.c (.int .i64 0))), .none⟩]) (.seq (.reg [⟨(.some 10), (.load 4 .true (.t 2)), .none⟩, ⟨(.some 11), (.mv (.t 1)), .none⟩, ⟨(.some 12), (.call (.c (.fn 55 [] [])) [(.t 10), (.t 11)]), .none⟩, ⟨(.some 13), (.not (.t 12)), .none⟩]) (.seq (.cond (.t 13) (.seq (.reg [⟨(.some 14), (.build [(.int .i64 0), (.int .i64 0), (.int .i64 0), .nils, .nils, .nils, .nils, .nils, .nils] []), .none⟩, ⟨.none, (.store 9 (.t 4) (.t 14)), .none⟩, ⟨(.some 5), (.mv (.c .nils)), .none⟩, ⟨(.some 6), (.mv (.c (.int .i64 20))), .none⟩]) .ret) .skip) (.seq (.reg [⟨(.some 16), (.load 4 .true (.t 2)), .none⟩, ⟨(.some 17), (.call (.c (.fn 46 [] [])) [(.t 16)]), .none⟩, ⟨(.some 15), (.mv (.t 17)), .none⟩, ⟨(.some 18), (.ext (.t 15) 0), .none⟩, ⟨(.some 19), (.ext (.t 15) 1), .none⟩, ⟨(.some 7), (.alloc [(.int .i64 0), (.int .i64 0), (.int .i64 0), .nils, .nils, .nils, .nils, .nils, .nils]), .none⟩, ⟨.none, (.store 9 (.t 7) (.t 18)), .none⟩, ⟨(.some 8), (.mv (.t 19)), .none⟩]) (.seq (.reg [⟨(.some 20), (.mv (.t 8)), .none⟩, ⟨(.some 21), (.bin .neq (.t 20) (.c (.int .i64 0))), .none⟩]) (.seq (.cond (.t 21) (.seq (.reg [⟨(.some 22), (.load 9 .true (.t 7)), .none⟩, ⟨(.some 23), (.mv (.t 8)), .none⟩, ⟨.none, (.store 9 (.t 4) (.t 22)), .none⟩, ⟨(.some 5), (.mv (.c .nils)), .none⟩, ⟨(.some 6), (.mv (.t 23)), .none⟩]) .ret) .skip) (.seq (.reg [⟨(.some 25), (.load 9 .true (.t 7)), .none⟩, ⟨(.some 26), (.mv (.t 1)), .none⟩, ⟨(.some 27), (.call (.c (.fn 47 [] [])) [(.t 25), (.t 26)]), .none⟩, ⟨(.some 24), (.mv (.t 27)), .none⟩, ⟨(.some 28), (.ext (.t 24) 0), .none⟩, ⟨(.some 29), (.ext (.t 24) 1), .none⟩, ⟨(.some 9), (.mv (.t 28)), .none⟩, ⟨(.some 8), (.mv (.t 29)), .none⟩]) (.seq (.reg [⟨(.some 30), (.load 9 .true (.t 7)), .none⟩, ⟨(.some 31), (.mv (.t 9)), .none⟩, ⟨(.some 32), (.mv (.t 8)), .none⟩, ⟨.none, (.store 9 (.t 4) (.t 30)), .none⟩, ⟨(.some 5), (.mv (.t 31)), .none⟩, ⟨(.some 6), (.mv (.t 32)), .none⟩]) .ret))))))))
theorem nc78 : nc Try.prog 78 = some (2, [(.c 4 9 .true), (.t 5), (.t 6)], gc78) := by kernel_rfl
def gc79 : MC := (.seq (.reg [⟨(.some 3), (.box 9 (.t 0)), .none⟩, ⟨(.some 6), (.mv (.c .nils)), .none⟩]) (.seq (.reg [⟨(.some 12), (.fadr 0 (.t 3)), .none⟩, ⟨(.some 13), (.load 1 .false (.t 12)), .none⟩, ⟨(.some 14), (.mkslice 1 1 [(.bool .false)] (.t 13)), .none⟩, ⟨(.some 7), (.alloc [.nils]), .none⟩, ⟨.none, (.store 1 (.t 7) (.t 14)), .none⟩]) (.seq (.reg [⟨(.some 15), (.load 1 .false (.t 7)), .none⟩, ⟨(.some 16), (.mv (.t 1)), .none⟩, ⟨(.some 17), (.iadr 1 (.t 15) (.t 16)), .none⟩, ⟨.none, (.store 1 (.t 17) (.c (.bool .true))), .none⟩]) (.seq (.reg [⟨(.some 18), (.mv (.t 1)), .none⟩, ⟨(.some 19), (.bslice 1 1 [(.int .i64 0)] [(0, (.t 18))]), .none⟩, ⟨(.some 8), (.alloc [.nils]), .none⟩, ⟨.none, (.store 1 (.t 8) (.t 19)), .none⟩]) (.seq (.reg [⟨(.some 20), (.mkfn 113 [] [(.t 7), (.t 8)]), .none⟩, ⟨(.some 9), (.mv (.t 20)), .none⟩]) (.seq (.reg [⟨(.some 10), (.mv (.c (.int .i64 0))), .none⟩]) (.seq (.block 0 (.loop (.seq (.reg [⟨(.some 21), (.mv (.t 10)), .none⟩, ⟨(.some 22), (.load 1 .false (.t 8)), .none⟩, ⟨(.some 23), (.len (.t 22)), .none⟩, ⟨(.some 24), (.bin .lss (.t 21) (.t 23)), .none⟩]) (.seq (.cond (.t 24) .skip (.exit 0)) (.seq (.block 1 (.seq (.dreg 0 [(.plain, ⟨(.some 27), (.fadr 3 (.t 3)), .none⟩), (.plain, ⟨(.some 28), (.load 1 .false (.t 27)), .none⟩), (.plain, ⟨(.some 29), (.load 1 .false (.t 8)), .none⟩), (.plain, ⟨(.some 30), (.mv (.t 10)), .none⟩), (.plain, ⟨(.some 31), (.iadr 1 (.t 29) (.t 30)), .none⟩), (.plain, ⟨(.some 32), (.load 1 .false (.t 31)), .none⟩), (.plain, ⟨(.some 33), (.iadr 1 (.t 28) (.t 32)), .none⟩), (.plain, ⟨(.some 34), (.load 1 .false (.t 33)), .none⟩), (.plain, ⟨(.some 11), (.mv (.t 34)), .none⟩)] []) (.block 2 (.loop (.seq (.dreg 0 [(.plain, ⟨(.some 35), (.mv (.t 11)), .none⟩), (.plain, ⟨(.some 36), (.fadr 3 (.t 3)), .none⟩), (.plain, ⟨(.some 37), (.load 1 .false (.t 36)), .none⟩), (.plain, ⟨(.some 38), (.load 1 .false (.t 8)), .none⟩), (.plain, ⟨(.some 39), (.mv (.t 10)), .none⟩), (.plain, ⟨(.some 40), (.iadr 1 (.t 38) (.t 39)), .none⟩), (.plain, ⟨(.some 41), (.load 1 .false (.t 40)), .none⟩), (.plain, ⟨(.some 42), (.bin .add (.t 41) (.c (.int .i64 1))), .none⟩), (.plain, ⟨(.some 43), (.iadr 1 (.t 37) (.t 42)), .none⟩), (.plain, ⟨(.some 44), (.load 1 .false (.t 43)), .none⟩), (.plain, ⟨(.some 45), (.bin .lss (.t 35) (.t 44)), .none⟩)] []) (.seq (.cond (.t 45) .skip (.exit 2)) (.seq (.block 3 (.seq (.reg [⟨(.some 48), (.mv (.t 2)), .none⟩, ⟨(.some 49), (.mv (.t 11)), .none⟩, ⟨(.some 50), (.call (.t 48) [(.t 49)]), .none⟩]) (.cond (.t 50) (.reg [⟨(.some 51), (.mv (.t 9)), .none⟩, ⟨(.some 52), (.fadr 4 (.t 3)), .none⟩, ⟨(.some 53), (.load 1 .false (.t 52)), .none⟩, ⟨(.some 54), (.mv (.t 11)), .none⟩, ⟨(.some 55), (.iadr 1 (.t 53) (.t 54)), .none⟩, ⟨(.some 56), (.load 1 .false (.t 55)), .none⟩, ⟨(.some 57), (.call (.t 51) [(.t 56)]), .none⟩]) .skip))) (.reg [⟨(.some 46), (.mv (.t 11)), .none⟩, ⟨(.some 47), (.bin .add (.t 46) (.c (.int .i64 1))), .none⟩, ⟨(.some 11), (.mv (.t 47)), .none⟩])))))))) (.reg [⟨(.some 25), (.mv (.t 10)), .none⟩, ⟨(.some 26), (.bin .add (.t 25) (.c (.int .i64 1))), .none⟩, ⟨(.some 10), (.mv (.t 26)), .none⟩])))))) (.seq (.reg [⟨(.some 58), (.load 1 .false (.t 7)), .none⟩, ⟨(.some 6), (.mv (.t 58)), .none⟩]) .ret))))))))
theorem nc79 : nc Try.prog 79 = some (3, [(.t 6)], gc79) := by kernel_rfl
def gc80 : MC := (.seq (.reg [⟨(.some 3), (.mv (.c (.bool .false))), .none⟩]) (.seq (.reg [⟨(.some 4), (.load 1 .false (.t 1)), .none⟩, ⟨(.some 5), (.mv (.t 0)), .none⟩, ⟨(.some 6), (.iadr 1 (.t 4) (.t 5)), .none⟩, ⟨(.some 7), (.load 1 .false (.t 6)), .none⟩, ⟨(.some 8), (.bin .gtr (.t 7) (.c (.int .i64 0))), .none⟩, ⟨(.some 3), (.mv (.t 8)), .none⟩]) .ret))
theorem nc80 : nc Try.prog 80 = some (2, [(.t 3)], gc80) := by kernel_rfl
def gc88 : MC := (.seq (.reg [⟨(.some 4), (.mv (.c (.bool .false))), .none⟩]) (.seq (.dreg 0 [(.plain, ⟨(.some 5), (.load 1 .false (.t 1)), .none⟩), (.plain, ⟨(.some 6), (.fadr 5 (.t 2)), .none⟩), (.plain, ⟨(.some 7), (.load 1 .false (.t 6)), .none⟩), (.plain, ⟨(.some 8), (.mv (.t 0)), .none⟩), (.plain, ⟨(.some 9), (.iadr 1 (.t 7) (.t 8)), .none⟩), (.plain, ⟨(.some 10), (.load 1 .false (.t 9)), .none⟩), (.plain, ⟨(.some 11), (.iadr 1 (.t 5) (.t 10)), .none⟩), (.plain, ⟨(.some 12), (.load 1 .false (.t 11)), .none⟩), (.plain, ⟨(.some 13), (.bin .gtr (.t 12) (.c (.int .i64 0))), .none⟩), (.plain, ⟨(.some 4), (.mv (.t 13)), .none⟩)] []) .ret))
theorem nc88 : nc Try.prog 88 = some (3, [(.t 4)], gc88) := by kernel_rfl
def gc113 : MC := (.seq (.reg [⟨(.some 4), (.load 1 .false (.t 1)), .none⟩, ⟨(.some 5), (.mv (.t 0)), .none⟩, ⟨(.some 6), (.iadr 1 (.t 4) (.t 5)), .none⟩, ⟨(.some 7), (.load 1 .false (.t 6)), .none⟩, ⟨(.some 8), (.not (.t 7)), .none⟩]) (.cond (.t 8) (.seq (.reg [⟨(.some 9), (.load 1 .false (.t 1)), .none⟩, ⟨(.some 10), (.mv (.t 0)), .none⟩, ⟨(.some 11), (.iadr 1 (.t 9) (.t 10)), .none⟩, ⟨.none, (.store 1 (.t 11) (.c (.bool .true))), .none⟩]) (.reg [⟨(.some 12), (.load 1 .false (.t 2)), .none⟩, ⟨(.some 13), (.mv (.t 0)), .none⟩, ⟨(.some 14), (.bslice 1 1 [(.int .i64 0)] [(0, (.t 13))]), .none⟩, ⟨(.some 15), (.append 1 8 (.t 12) (.t 14)), .none⟩, ⟨.none, (.store 1 (.t 2) (.t 15)), .none⟩])) .skip))
theorem nc113 : nc Try.prog 113 = some (3, [], gc113) := by kernel_rfl
end Go.Proofs.Ytpojdgeginigjaa
/- Cuts: met: the walk. -/
set_option linter.unusedSimpArgs false
set_option linter.unusedVariables false
namespace Go.Proofs.Ytpojdgeginigjaa
open Go Go.Ar
set_option maxRecDepth 100000

/-- A row of whole numbers of one's own, not empty, that grows. -/
def RowR (H : Heap) (B : Nat) (x : V) (l : List Int) : Prop := ∃ k m, x = .sl k 0 l.length l.length ∧ B ≤ k ∧ H[k]? = some (.cells (l.map (.int .i64)) m) ∧ (m = .gr 1 ∨ m = .ex)
theorem RowR.il {H : Heap} {B : Nat} {x : V} {l : List Int} (h : RowR H B x l) : IL .i64 H x l := by
  obtain ⟨k, m, rfl, _, h1, _⟩ := h
  exact IL.own h1
theorem RowR.frame {H H' : Heap} {B : Nat} {x : V} {l : List Int} (h : RowR H B x l) (e : ∀ k, x.blk? = some k → H'[k]? = H[k]?) : RowR H' B x l := by
  obtain ⟨k, m, rfl, hb, h1, h2⟩ := h
  exact ⟨k, m, rfl, hb, (e k rfl).trans h1, h2⟩
theorem pushR {H : Heap} {B : Nat} {x : V} {l : List Int} (h : RowR H B x l) (hB : B ≤ H.length) (v : Int) (hs : l.length ≤ 2 ^ 20) : ∃ x' H', appendv (H ++ [.cells [.int .i64 v] .ex]) 1 8 x (.sl H.length 0 1 1) = some (x', H') ∧ RowR H' B x' (l ++ [v]) ∧ H.length ≤ H'.length ∧ (∀ k, k < H.length → x.blk? ≠ some k → H'[k]? = H[k]?) ∧ (∀ k, x'.blk? = some k → H.length ≤ k) := by
  have hc : cellsOf (H ++ [.cells [.int .i64 v] .ex]) 1 (.sl H.length 0 1 1) = some [.int .i64 v] := by simp [cellsOf, rdn]
  have hsc : [V.int .i64 v].all V.scalar = true := rfl
  obtain ⟨k, m, rfl, hb, hk, hm⟩ := h
  have hkl := lt_of_get hk
  have hk' : (H ++ [Blk.cells [.int .i64 v] .ex])[k]? = some (.cells (l.map (.int .i64)) m) := get_pre hk
  rcases hm with rfl | rfl
  · refine ⟨.sl (H.length + 1) 0 (l.length + 1) (l.length + 1), (H ++ [Blk.cells [.int .i64 v] .ex]).set k .dead ++ [.cells ((l ++ [v]).map (.int .i64)) (.gr 1)], ?_, ⟨H.length + 1, .gr 1, by simp, by omega, ?_, .inl rfl⟩, by simp; omega, fun j hj hne => ?_, fun j hj => by simp [V.blk?] at hj; omega⟩
    · unfold appendv
      simp only [lenOf, hc, hsc, hk']
      rw [if_neg (by simp), if_pos (by simp), if_neg (by omega), if_pos (by unfold lim; omega), if_pos ⟨trivial, trivial⟩, List.take_of_length_le (by simp)]
      simp
    · rw [List.getElem?_append_right (by simp)]; simp
    · rw [List.getElem?_append_left (by simp; omega), List.getElem?_set_ne (fun e => hne (by rw [e]; rfl)), List.getElem?_append_left hj]
  · refine ⟨.sl (H.length + 1) 0 (l.length + 1) (l.length + 1), (H ++ [Blk.cells [.int .i64 v] .ex]) ++ [.cells ((l ++ [v]).map (.int .i64)) (.gr 1)], ?_, ⟨H.length + 1, .gr 1, by simp, by omega, ?_, .inl rfl⟩, by simp, fun j hj hne => ?_, fun j hj => by simp [V.blk?] at hj; omega⟩
    · unfold appendv
      simp only [lenOf, hc, hsc, hk']
      rw [if_neg (by simp), if_pos (by simp), if_neg (by omega), if_pos (by unfold lim; omega)]
      simp
      exact List.take_of_length_le (by simp)
    · rw [List.getElem?_append_right (by simp)]; simp
    · rw [List.getElem?_append_left (by simp; omega), List.getElem?_append_left hj]

/-- Who is met so far, in memory. -/
structure MS (HB H : Heap) (ko k7 k8 vs : Nat) (out : Nat → Bool) (x : V) (r : List Int) : Prop where
  hp : Hp HB H []
  ob : H[ko]? = some (rB vs out)
  b7 : H[k7]? = some (.cells [.sl ko 0 vs vs] .ex)
  b8 : H[k8]? = some (.cells [x] .ex)
  row : RowR H HB.length x r
  ne : ∀ k, x.blk? = some k → k ≠ ko ∧ k ≠ k7 ∧ k ≠ k8
  ge : HB.length ≤ ko ∧ HB.length ≤ k7 ∧ HB.length ≤ k8 ∧ ko ≠ k7 ∧ ko ≠ k8 ∧ k7 ≠ k8
theorem meet_ok {HB H : Heap} {ko k7 k8 vs v : Nat} {out : Nat → Bool} {x : V} {r : List Int} (h : MS HB H ko k7 k8 vs out x r) (hv : v < vs) (hr : r.length ≤ 2 ^ 20) :
    ∃ w H', callL E (.f 113) [.int .i64 v, .ptr k7 0, .ptr k8 0] H = some (w, H') ∧ ((out v = true ∧ H' = H) ∨ (out v = false ∧ ∃ x', MS HB H' ko k7 k8 vs (fupd out v true) x' (r ++ [(v : Int)]))) := by
  refine call_E rfl nc113 rfl ?_
  unfold gc113
  have b70 : rd H k7 0 = some (.sl ko 0 vs vs) := rd_get h.b7
  have ro : rd H ko v = some (.bool (out v)) := by rw [rd_get h.ob]; simp [hv]
  refine wa_sr ⟨_, by simp -implicitDefEqProofs [b70, hv, ro]; rfl, ?_⟩
  cases hov : out v with
  | true =>
    refine wa_cond (t := false) (by simp) (fun h => by cases h) (fun _ => wa_skip ?_)
    exact ⟨by simp, _, by simp; rfl, .inl ⟨rfl, rfl⟩⟩
  | false =>
    refine wa_cond (t := true) (by simp) (fun _ => ?_) (fun h => by cases h)
    obtain ⟨H1, w1, o1, f1, l1⟩ : ∃ X, wr H ko v [.bool true] = some X ∧ X[ko]? = some (rB vs (fupd out v true)) ∧ (∀ j, j ≠ ko → X[j]? = H[j]?) ∧ X.length = H.length := by
      refine ⟨_, wr1 h.ob rfl (by simpa using hv) rfl, ?_, fun j hj => List.getElem?_set_ne (fun e => hj e.symm), by simp⟩
      rw [List.getElem?_set_self (lt_of_get h.ob), tb_set]
      unfold rB
      rw [tb_congr fun j _ => show (if j = v then V.bool true else V.bool (out j)) = V.bool (fupd out v true j) by unfold fupd; split <;> rfl]
    refine wa_sr ⟨_, by simp -implicitDefEqProofs [b70, hv, w1]; rfl, ?_⟩
    obtain ⟨g1, g2, g3, g4, g5, g6⟩ := h.ge
    have b8' : H1[k8]? = some (.cells [x] .ex) := (f1 k8 (fun e => g5 e.symm)).trans h.b8
    have b80 : rd H1 k8 0 = some x := rd_get b8'
    have hrow : RowR H1 HB.length x r := h.row.frame fun k hk => f1 k (h.ne k hk).1
    have hle := h.hp.le
    obtain ⟨x', H2, p1, p2, p3, p4, p5⟩ := pushR hrow (by omega) (v : Int) hr
    have hxs : x'.scalar = true := len_scalar (Rw.len p2.il)
    have hxc := len_cells (Rw.len p2.il)
    have lk8 := lt_of_get b8'
    have lko := lt_of_get o1
    have b7' := (f1 k7 (fun e => g4 e.symm)).trans h.b7
    have lk7 := lt_of_get b7'
    have hxk : ∀ k, x.blk? = some k → k < H1.length := fun k hk => Rw.lt hrow.il k hk
    have b82 : H2[k8]? = some (.cells [x] .ex) := (p4 k8 lk8 (fun e => (h.ne k8 e).2.2 rfl)).trans b8'
    obtain ⟨H3, w3, o3, f3, l3⟩ : ∃ X, wr H2 k8 0 [x'] = some X ∧ X[k8]? = some (.cells [x'] .ex) ∧ (∀ j, j ≠ k8 → X[j]? = H2[j]?) ∧ X.length = H2.length :=
      ⟨_, wr1 (o := 0) (v := x') b82 rfl (by simp) hxs, List.getElem?_set_self (lt_of_get b82), fun j hj => List.getElem?_set_ne (fun e => hj e.symm), by simp⟩
    refine wa_regs ⟨_, by simp -implicitDefEqProofs [b80, fillc, p1, hxc, w3]; rfl, ?_⟩
    refine ⟨by simp, _, by simp; rfl, .inr ⟨rfl, x', ?_⟩⟩
    refine ⟨⟨by dsimp only; omega, fun j hj => ?_, fun p hp => by simp at hp, List.nodup_nil⟩, ?_, ?_, o3, p2.frame fun k hk => f3 k (by have := p5 k hk; omega), fun k hk => by have := p5 k hk; omega, h.ge⟩
    · rw [f3 j (by omega), p4 j (by omega) (fun e => by obtain ⟨k, m, hx, hb, _⟩ := hrow; rw [hx] at e; simp [V.blk?] at e; omega), f1 j (by omega)]
      exact h.hp.old j hj
    · show H3[ko]? = _
      rw [f3 ko g5, p4 ko lko (fun e => (h.ne ko e).1 rfl)]; exact o1
    · show H3[k7]? = _
      rw [f3 k7 g6, p4 k7 lk7 (fun e => (h.ne k7 e).2.1 rfl)]; exact b7'

/-- A loop by a test that any piece of code makes. -/
theorem wa_whm {pre : MC} {post : List Ins} {c : Nat} {i1 i2 : Nat} {body : MC} {Q : Ex → St → Prop} (I : Nat → St → Prop) (m : Nat) {s : St} (h0 : I m s)
    (step : ∀ m s, I m s → WP E pre s (After (fun _ _ => False) fun s1 => ∃ t, s1.τ c = .bool t ∧
      (t = true → WP E body s1 (InBlk i2 (After (InBlk i1 Q) fun s2 => ∃ s3, insL (callL E) post s2 = some s3 ∧ ∃ m', m' < m ∧ I m' s3))) ∧ (t = false → Q .normal s1))) :
    WP E (.block i1 (.loop (.seq pre (.seq (.cond (.t c) .skip (.exit i1)) (.seq (.block i2 body) (.reg post)))))) s Q := by
  refine wa_block (wa_loop I ?_ m s h0)
  intro m s hI
  obtain ⟨e, s1, h1, h2⟩ := step m s hI
  cases e with
  | exit j => exact h2.elim
  | ret => exact h2.elim
  | normal =>
    obtain ⟨t, h3, h4, h5⟩ := h2
    refine wa_seq ⟨.normal, s1, h1, ?_⟩
    refine wa_if (t := t) h3 (fun ht => ?_) (fun ht => ?_)
    · obtain ⟨ex, s2, h6, h7⟩ := wa_block (h4 ht)
      cases ex with
      | normal =>
        obtain ⟨s3, h8, h9⟩ := h7
        exact wa_seq ⟨.normal, s2, h6, wa_reg h8 h9⟩
      | exit j => exact wa_seq ⟨.exit j, s2, h6, h7⟩
      | ret => exact wa_seq ⟨.ret, s2, h6, h7⟩
    · refine wa_ex ?_
      simp only [After, InBlk, if_true]
      exact h5 ht

/-- Whom one meets. -/
inductive Rch (c : Csr) (may : Nat → Bool) (u0 : Nat) : Nat → Prop
  | refl : Rch c may u0 u0
  | step {u a w : Nat} : Rch c may u0 u → c.first u ≤ (a : Int) → (a : Int) < c.first (u + 1) → may a = true → c.head a = (w : Int) → Rch c may u0 w
def cntT (o : Nat → Bool) : Nat → Nat
  | 0 => 0
  | v + 1 => cntT o v + if o v = true then 1 else 0
theorem cntT_le (o : Nat → Bool) : ∀ n, cntT o n ≤ n
  | 0 => Nat.le_refl _
  | n + 1 => by have := cntT_le o n; simp only [cntT]; split <;> omega
theorem cntT_same {o : Nat → Bool} {w : Nat} : ∀ n, n ≤ w → cntT (fupd o w true) n = cntT o n
  | 0, _ => rfl
  | n + 1, h => by
    have e : fupd o w true n = o n := by unfold fupd; rw [if_neg (by omega)]
    simp only [cntT, cntT_same (o := o) (w := w) n (by omega), e]
theorem cntT_one {o : Nat → Bool} {w : Nat} (hw : o w = false) : ∀ n, w < n → cntT (fupd o w true) n = cntT o n + 1
  | 0, h => by omega
  | n + 1, h => by
    by_cases e : w = n
    · subst e
      have e1 : fupd o w true w = true := by unfold fupd; rw [if_pos rfl]
      simp only [cntT, cntT_same w (Nat.le_refl _), e1, hw]; simp
    · have e1 : fupd o w true n = o n := by unfold fupd; rw [if_neg (fun h => e h.symm)]
      simp only [cntT, cntT_one hw n (by omega), e1]; omega
/-- The search, so far: i vertices looked at, of the next all arcs before p. -/
structure MI (c : Csr) (may : Nat → Bool) (u0 vs : Nat) (out : Nat → Bool) (r : List Nat) (i p : Nat) : Prop where
  len : r.length = cntT out vs
  mem : ∀ v, v ∈ r → v < vs ∧ out v = true ∧ Rch c may u0 v
  all : ∀ v, v < vs → out v = true → v ∈ r
  cls : ∀ j v, j < i → r[j]? = some v → ∀ a : Nat, c.first v ≤ (a : Int) → (a : Int) < c.first (v + 1) → may a = true → out (c.head a).toNat = true
  now : ∀ v, r[i]? = some v → ∀ a : Nat, c.first v ≤ (a : Int) → a < p → may a = true → out (c.head a).toNat = true
  fst : u0 ∈ r
theorem MI.add {c : Csr} {may : Nat → Bool} {u0 vs w : Nat} {out : Nat → Bool} {r : List Nat} {i p : Nat} (h : MI c may u0 vs out r i p) (hi : i < r.length) (hw : w < vs) (ho : out w = false) (hr : Rch c may u0 w) : MI c may u0 vs (fupd out w true) (r ++ [w]) i p := by
  have mono : ∀ v, out v = true → fupd out w true v = true := fun v hv => by unfold fupd; split; rfl; exact hv
  have gi : ∀ j, j ≤ i → (r ++ [w])[j]? = r[j]? := fun j hj => List.getElem?_append_left (by omega)
  refine ⟨by simp [h.len, cntT_one ho vs hw], fun v hv => ?_, fun v hv hov => ?_, fun j v hj hjv a h1 h2 h3 => ?_, fun v hv a h1 h2 h3 => ?_, by simp [h.fst]⟩
  · rcases List.mem_append.1 hv with hv | hv
    · obtain ⟨a1, a2, a3⟩ := h.mem v hv
      exact ⟨a1, mono v a2, a3⟩
    · simp at hv; subst hv
      exact ⟨hw, by unfold fupd; rw [if_pos rfl], hr⟩
  · by_cases e : v = w
    · simp [e]
    · have : out v = true := by unfold fupd at hov; rw [if_neg e] at hov; exact hov
      simp [h.all v hv this]
  · rw [gi j (by omega)] at hjv
    exact mono _ (h.cls j v hj hjv a h1 h2 h3)
  · rw [gi i (Nat.le_refl _)] at hv
    exact mono _ (h.now v hv a h1 h2 h3)
theorem MI.now' {c : Csr} {may : Nat → Bool} {u0 vs : Nat} {out : Nat → Bool} {r : List Nat} {i p p' : Nat} (h : MI c may u0 vs out r i p) (hn : ∀ v, r[i]? = some v → ∀ a : Nat, c.first v ≤ (a : Int) → a < p' → may a = true → out (c.head a).toNat = true) : MI c may u0 vs out r i p' := ⟨h.len, h.mem, h.all, h.cls, hn, h.fst⟩
theorem MI.next {c : Csr} {may : Nat → Bool} {u0 vs u : Nat} {out : Nat → Bool} {r : List Nat} {i p : Nat} (h : MI c may u0 vs out r i p) (hu : r[i]? = some u) (hp : c.first (u + 1) ≤ (p : Int)) : MI c may u0 vs out r (i + 1) 0 :=
  ⟨h.len, h.mem, h.all, fun j v hj hv a h1 h2 h3 => by
    by_cases e : j = i
    · subst e
      rw [hu] at hv; cases hv
      exact h.now u hu a h1 (by omega) h3
    · exact h.cls j v (by omega) hv a h1 h2 h3, fun v _ a _ h2 => by omega, h.fst⟩
theorem MI.fin {c : Csr} {may : Nat → Bool} {u0 vs : Nat} {out : Nat → Bool} {r : List Nat} {i p : Nat} (h : MI c may u0 vs out r i p) (hi : r.length ≤ i) (hh : ∀ v a : Nat, v < vs → c.first v ≤ (a : Int) → (a : Int) < c.first (v + 1) → ∃ w : Nat, c.head a = w ∧ w < vs) : ∀ v, v < vs → (out v = true ↔ Rch c may u0 v) := by
  intro v hv
  refine ⟨fun ho => (h.mem v (h.all v hv ho)).2.2, fun hr => ?_⟩
  have key : ∀ v, Rch c may u0 v → v ∈ r := fun v hr => by
    induction hr with
    | refl => exact h.fst
    | @step u a w _ h1 h2 h3 h4 ih =>
      obtain ⟨j, hj⟩ := List.mem_iff_getElem?.1 ih
      have hjl := (List.getElem?_eq_some_iff.1 hj).1
      obtain ⟨huv, _, _⟩ := h.mem u ih
      have h5 := h.cls j u (by omega) hj a h1 h2 h3
      obtain ⟨w', e1, e2⟩ := hh u a huv h1 h2
      rw [h4] at h5 e1
      simp only [Int.toNat_natCast] at h5
      exact h.all w (by omega) h5
  exact (h.mem v (key v hr)).2.1

set_option maxHeartbeats 8000000 in
theorem met_ok {c : Csr} {xc : CV} {H : Heap} {g u0 : Nat} {caps : List V} {may : Nat → Bool} (h : CA H c xc) (hN : c.N = (c.vs : Int)) (hvs : c.vs ≤ 2 ^ 12) (hm : c.m ≤ 2 ^ 20) (hu : u0 < c.vs)
    (hfm : ∀ v a : Nat, v < c.vs → c.first v ≤ (a : Int) → (a : Int) < c.first (v + 1) → a < c.m) (hfn : ∀ v, v ≤ c.vs → ∃ q : Nat, c.first v = (q : Int) ∧ q ≤ c.m) (hmono : ∀ v, v < c.vs → c.first v ≤ c.first (v + 1))
    (hh : ∀ a, a < c.m → ∃ w : Nat, c.head a = w ∧ w < c.vs) (hmay : ∀ H', Hp H H' [] → ∀ a : Nat, a < c.m → callL E (.f g) ([] ++ [.int .i64 a] ++ caps) H' = some (.bool (may a), H')) :
    ∃ out F G, callL E (.f 79) [CVal c xc, .int .i64 u0, .fn g [] caps] H = some (.sl (H ++ F).length 0 c.vs c.vs, (H ++ F) ++ (rB c.vs out :: G)) ∧ ∀ v, v < c.vs → (out v = true ↔ Rch c may u0 v) := by
  have key : ∃ w H', callL E (.f 79) [CVal c xc, .int .i64 u0, .fn g [] caps] H = some (w, H') ∧ ∃ out F G, w = .sl (H ++ F).length 0 c.vs c.vs ∧ H' = (H ++ F) ++ (rB c.vs out :: G) ∧ ∀ v, v < c.vs → (out v = true ↔ Rch c may u0 v) := by
    refine call_E rfl nc79 rfl ?_
    unfold gc79 CVal
    have hlim : (c.vs : Int) ≤ (lim : Nat) := by unfold lim; omega
    have hp2 : (c.vs : Int) ≤ 1099511627776 := by omega
    have hu1 : u0 + 1 ≤ c.vs := hu
    refine wa_sr ⟨_, by simp; rfl, ?_⟩
    rw [hN]
    refine wa_sr ⟨_, by simp -implicitDefEqProofs [hlim, hp2]; rfl, ?_⟩
    refine wa_sr ⟨_, by simp -implicitDefEqProofs [hu, hu1]; rfl, ?_⟩
    refine wa_sr ⟨_, by simp -implicitDefEqProofs [fillc]; rfl, ?_⟩
    refine wa_sr ⟨_, by simp; rfl, ?_⟩
    refine wa_sr ⟨_, by simp; rfl, ?_⟩
    have hfun : (tb c.vs fun j => if j = u0 then V.bool true else V.bool false) = tb c.vs fun j => .bool (fupd (fun _ => false) u0 true j) := tb_congr fun j _ => by unfold fupd; split <;> rfl
    have hB : (H ++ [cbox c xc]).length = H.length + 1 := by simp
    have hMS : MS (H ++ [cbox c xc]) (H ++ (cbox c xc :: rB c.vs (fupd (fun _ => false) u0 true) :: .cells [.sl (H.length + 1) 0 c.vs c.vs] .ex :: .cells [.int .i64 u0] .ex :: [.cells [.sl (H.length + 3) 0 1 1] .ex])) (H.length + 1) (H.length + 2) (H.length + 4) c.vs (fupd (fun _ => false) u0 true) (.sl (H.length + 3) 0 1 1) ([u0].map fun v : Nat => (v : Int)) := by
      refine ⟨?_, by simp, by simp, by simp, ⟨H.length + 3, .ex, rfl, by simp, by simp, .inr rfl⟩, fun k hk => by simp [V.blk?] at hk; omega, by simp⟩
      have := Hp.app (H ++ [cbox c xc]) (rB c.vs (fupd (fun _ => false) u0 true) :: .cells [.sl (H.length + 1) 0 c.vs c.vs] .ex :: .cells [.int .i64 u0] .ex :: [.cells [.sl (H.length + 3) 0 1 1] .ex])
      simpa using this
    have hMI : MI c may u0 c.vs (fupd (fun _ => false) u0 true) [u0] 0 0 := by
      refine ⟨?_, fun v hv => ?_, fun v hv hov => ?_, fun j v hj => by omega, fun v _ a _ ha => by omega, by simp⟩
      · have : cntT (fun _ => false) c.vs = 0 := by
          have : ∀ n, cntT (fun _ => false) n = 0 := fun n => by induction n with | zero => rfl | succ n ih => simp [cntT, ih]
          exact this _
        rw [cntT_one rfl c.vs hu, this]; rfl
      · simp at hv; subst hv
        exact ⟨hu, by unfold fupd; rw [if_pos rfl], .refl⟩
      · by_cases e : v = u0
        · simp [e]
        · unfold fupd at hov; rw [if_neg e] at hov; cases hov
    have hheap : H ++ (Blk.cells [.int .i64 (c.vs : Int), .int .i64 c.S, .int .i64 c.T, xc.x1, xc.x2, xc.x3, xc.x4, xc.x5, xc.x6] .ex :: .cells (tb c.vs fun j => if j = u0 then V.bool true else V.bool false) .ex :: .cells [.sl (H.length + 1) 0 c.vs c.vs] .ex :: .cells [.int .i64 u0] .ex :: [.cells [.sl (H.length + 3) 0 1 1] .ex]) = H ++ (cbox c xc :: rB c.vs (fupd (fun _ => false) u0 true) :: .cells [.sl (H.length + 1) 0 c.vs c.vs] .ex :: .cells [.int .i64 u0] .ex :: [.cells [.sl (H.length + 3) 0 1 1] .ex]) := by
      rw [hfun]; simp only [cbox, rB, hN]
    refine wa_rg [(2, .fn g [] caps), (3, .ptr H.length 0), (7, .ptr (H.length + 2) 0), (8, .ptr (H.length + 4) 0), (9, .fn 113 [] [.ptr (H.length + 2) 0, .ptr (H.length + 4) 0]), (10, .int .i64 0)] (by simp [Rg]) ?_
    rw [hheap]
    have gc : (H ++ [cbox c xc])[H.length]? = some (cbox c xc) := by simp
    have hpH : Hp H (H ++ [cbox c xc]) [] := Hp.app _ _
    have hCB := h.app [cbox c xc]
    clear hheap hfun
    generalize H ++ (cbox c xc :: rB c.vs (fupd (fun _ => false) u0 true) :: .cells [.sl (H.length + 1) 0 c.vs c.vs] .ex :: .cells [.int .i64 u0] .ex :: [.cells [.sl (H.length + 3) 0 1 1] .ex]) = H0 at *
    generalize hHBe : H ++ [cbox c xc] = HB at *
    rintro τ ⟨t2, t3, t7, t8, t9, t10, -⟩
    dsimp only at t2 t3 t7 t8 t9 t10
    have lkc := lt_of_get gc
    refine wa_cut (fun s => (∃ (out : Nat → Bool) (x : V) (r : List Nat), MS HB s.H (H.length + 1) (H.length + 2) (H.length + 4) c.vs out x (r.map fun v : Nat => (v : Int)) ∧ ∀ v, v < c.vs → (out v = true ↔ Rch c may u0 v)) ∧ s.τ 7 = .ptr (H.length + 2) 0) ?_ ?_
    · refine wa_while (fun q s => ∃ (i : Nat) (out : Nat → Bool) (x : V) (r : List Nat), q = c.vs - i ∧ MS HB s.H (H.length + 1) (H.length + 2) (H.length + 4) c.vs out x (r.map fun v : Nat => (v : Int)) ∧ MI c may u0 c.vs out r i 0 ∧ Rg s.τ [(2, .fn g [] caps), (3, .ptr H.length 0), (7, .ptr (H.length + 2) 0), (8, .ptr (H.length + 4) 0), (9, .fn 113 [] [.ptr (H.length + 2) 0, .ptr (H.length + 4) 0]), (10, .int .i64 i)]) c.vs ⟨0, _, _, [u0], rfl, hMS, hMI, by simp [Rg, t2, t3, t7, t8, t9, t10]⟩ ?_
      clear t2 t3 t7 t8 t9 t10 τ hMS hMI
      rintro q ⟨τ, H1⟩ ⟨i, out, x, r, rfl, hS, hI, t2, t3, t7, t8, t9, t10, -⟩
      dsimp only at hS t2 t3 t7 t8 t9 t10
      have b80 : rd H1 (H.length + 4) 0 = some x := rd_get hS.b8
      have hxl : lenOf x = some r.length := by have := Rw.len hS.row.il; simpa using this
      have hrl : r.length ≤ c.vs := by rw [hI.len]; exact cntT_le _ _
      refine ⟨_, decide (i < r.length), by simp -implicitDefEqProofs [t8, t10, b80, hxl]; rfl, by simp, fun ht => ?_, fun ht => ?_⟩
      · have hir : i < r.length := by simpa using ht
        have hiv : i < c.vs := by omega
        refine wa_rg [(2, .fn g [] caps), (3, .ptr H.length 0), (7, .ptr (H.length + 2) 0), (8, .ptr (H.length + 4) 0), (9, .fn 113 [] [.ptr (H.length + 2) 0, .ptr (H.length + 4) 0]), (10, .int .i64 i)] (by simp [Rg, t2, t3, t7, t8, t9, t10]) ?_
        clear t2 t3 t7 t8 t9 t10 τ ht
        rintro τ ⟨t2, t3, t7, t8, t9, t10, -⟩
        dsimp only at t2 t3 t7 t8 t9 t10
        obtain ⟨u, hru⟩ : ∃ u, r[i]? = some u := ⟨_, List.getElem?_eq_getElem hir⟩
        obtain ⟨huv, huo, hur⟩ := hI.mem u (List.mem_of_getElem? hru)
        have rdrow : ∀ H2 x2 (r2 : List Nat), RowR H2 HB.length x2 (r2.map fun v : Nat => (v : Int)) → r2[i]? = some u → ∃ k, x2 = .sl k 0 r2.length r2.length ∧ rd H2 k i = some (.int .i64 u) := fun H2 x2 r2 ⟨k, m, e1, _, e2, _⟩ hru2 => by
          refine ⟨k, by simpa using e1, ?_⟩
          rw [rd_get e2]
          simp [hru2]
        have cr : ∀ H2, Hp HB H2 [] → ∀ o, rd H2 H.length o = [V.int .i64 c.N, .int .i64 c.S, .int .i64 c.T, xc.x1, xc.x2, xc.x3, xc.x4, xc.x5, xc.x6][o]? := fun H2 hp o => rd_get ((hp.old _ lkc).trans gc)
        obtain ⟨q0, hq0, hq0m⟩ := hfn u (by omega)
        obtain ⟨q1, hq1, hq1m⟩ := hfn (u + 1) (by omega)
        have hq01 := hmono u huv
        rw [hq0, hq1] at hq01
        have fr : ∀ H2, Hp HB H2 [] → ∃ k o cc, xc.x1 = .sl k o (c.vs + 1) cc ∧ rd H2 k (o + u) = some (.int .i64 q0) ∧ rd H2 k (o + (u + 1)) = some (.int .i64 q1) := fun H2 hp => by
          have hF : TB H2 xc.x1 (c.vs + 1) fun j => .int .i64 (c.first j) := hCB.f1.frame fun k hk => hp.old k (hCB.f1.lt k hk)
          obtain ⟨k, o, cc, e1, e2⟩ := hF.at0 (show u < c.vs + 1 by omega)
          obtain ⟨k', o', cc', e1', e2'⟩ := hF.at0 (show u + 1 < c.vs + 1 by omega)
          rw [e1] at e1'
          cases e1'
          exact ⟨k, o, cc, e1, by rw [e2, hq0], by rw [e2', hq1]⟩
        have hu2 : (u : Int) < (c.vs : Int) + 1 := by omega
        have wu : IntKind.i64.wrap ((u : Int) + 1) = (u : Int) + 1 := w64 (by omega) (by omega)
        have pu : (0 : Int) ≤ (u : Int) + 1 := by omega
        have uu : (u : Int) + 1 < (c.vs : Int) + 1 := by omega
        have tu : ((u : Int) + 1).toNat = u + 1 := by omega
        obtain ⟨kx, ex, rx⟩ := rdrow H1 x r hS.row hru
        obtain ⟨k1, o1, c1, e1, r1, r1'⟩ := fr H1 hS.hp
        have crr := cr H1 hS.hp
        refine wa_dr rfl rfl ⟨_, by simp -implicitDefEqProofs [t3, t8, t10, crr, b80, ex, hir, rx, e1, hu2, r1]; rfl, ?_⟩
        refine (wa_whm (fun q s => ∃ (p : Nat) (out : Nat → Bool) (x : V) (r : List Nat), q = q1 - p ∧ q0 ≤ p ∧ p ≤ q1 ∧ MS HB s.H (H.length + 1) (H.length + 2) (H.length + 4) c.vs out x (r.map fun v : Nat => (v : Int)) ∧ MI c may u0 c.vs out r i p ∧ r[i]? = some u ∧ Rg s.τ [(2, .fn g [] caps), (3, .ptr H.length 0), (7, .ptr (H.length + 2) 0), (8, .ptr (H.length + 4) 0), (9, .fn 113 [] [.ptr (H.length + 2) 0, .ptr (H.length + 4) 0]), (10, .int .i64 i), (11, .int .i64 p)]) (q1 - q0) ⟨q0, out, x, r, rfl, Nat.le_refl _, by omega, hS, ?_, hru, by simp [Rg, t2, t3, t7, t8, t9, t10]⟩ ?_)
        · exact hI.now' fun v hv a h1 h2 _ => by
            rw [hru] at hv; cases hv
            rw [hq0] at h1; omega
        clear t2 t3 t7 t8 t9 t10 τ hS hI b80 hxl hrl hir huo hru rx ex crr r1 r1' e1 x r out
        rintro q ⟨τ, H2⟩ ⟨p, out, x, r, rfl, hp1, hp2', hS, hI, hru, t2, t3, t7, t8, t9, t10, t11, -⟩
        dsimp only at hS t2 t3 t7 t8 t9 t10 t11
        have b80 : rd H2 (H.length + 4) 0 = some x := rd_get hS.b8
        have hir : i < r.length := (List.getElem?_eq_some_iff.1 hru).1
        obtain ⟨kx, ex, rx⟩ := rdrow H2 x r hS.row hru
        obtain ⟨k1, o1, c1, e1, r1, r1'⟩ := fr H2 hS.hp
        have crr := cr H2 hS.hp
        refine wa_drl rfl rfl ⟨_, by simp -implicitDefEqProofs [t3, t8, t10, t11, crr, b80, ex, hir, rx, e1, wu, pu, uu, tu, r1']; rfl, decide (p < q1), by simp, fun ht => ?_, fun ht => ?_⟩
        · have hlt : p < q1 := by simpa using ht
          have hpm : p < c.m := by omega
          obtain ⟨w, hw, hwv⟩ := hh p hpm
          have hmp := hmay H2 (hpH.x hS.hp) p hpm
          simp only [List.nil_append, List.cons_append] at hmp
          have wp : IntKind.i64.wrap ((p : Int) + 1) = (p : Int) + 1 := w64 (by omega) (by omega)
          have hcrl : r.length ≤ 2 ^ 20 := by rw [hI.len]; have := cntT_le out c.vs; omega
          have hnext : (may p = true → out (c.head p).toNat = true) → MI c may u0 c.vs out r i (p + 1) := fun hc => hI.now' fun v hv a h1 h2 h3 => by
            by_cases e : a = p
            · subst e; exact hc h3
            · exact hI.now v hv a h1 (by omega) h3
          refine wa_sr ⟨_, by simp -implicitDefEqProofs [t2, t11, hmp]; rfl, ?_⟩
          cases hmy : may p with
          | false =>
            refine wa_cond (t := false) (by simp) (fun h => by cases h) (fun _ => wa_skip ?_)
            refine ⟨_, by simp -implicitDefEqProofs [t11, wp]; rfl, q1 - (p + 1), by omega, p + 1, out, x, r, rfl, by omega, by omega, hS, hnext (fun h => by rw [hmy] at h; cases h), hru, by simp [Rg, t2, t3, t7, t8, t9, t10]⟩
          | true =>
            refine wa_cond (t := true) (by simp) (fun _ => ?_) (fun h => by cases h)
            obtain ⟨w', H3, m1, m2⟩ := meet_ok hS hwv (by simpa using hcrl)
            have h2f : TB H2 xc.x2 c.m fun j => .int .i64 (c.head j) := hCB.f2.frame fun k hk => hS.hp.old k (hCB.f2.lt k hk)
            obtain ⟨k2, o2, c2, e2, r2⟩ := h2f.at0 hpm
            rw [hw] at r2
            refine wa_regs ⟨_, by simp -implicitDefEqProofs [t3, t9, t11, crr, e2, hpm, r2, m1]; rfl, ?_⟩
            refine ⟨_, by simp -implicitDefEqProofs [t11, wp]; rfl, q1 - (p + 1), by omega, p + 1, ?_⟩
            rcases m2 with ⟨m3, rfl⟩ | ⟨m3, x', m4⟩
            · exact ⟨out, x, r, rfl, by omega, by omega, hS, hnext (fun _ => by rw [hw]; simpa using m3), hru, by simp [Rg, t2, t3, t7, t8, t9, t10]⟩
            · have hrw : Rch c may u0 w := .step hur (by rw [hq0]; omega) (by rw [hq1]; omega) hmy hw
              have hadd := hI.add hir hwv m3 hrw
              refine ⟨fupd out w true, x', r ++ [w], rfl, by omega, by omega, by simpa using m4, hadd.now' fun v hv a h1 h2 h3 => ?_, by rw [List.getElem?_append_left hir]; exact hru, by simp [Rg, t2, t3, t7, t8, t9, t10]⟩
              by_cases e : a = p
              · subst e
                rw [hw]
                simp only [Int.toNat_natCast]
                unfold fupd; rw [if_pos rfl]
              · exact hadd.now v hv a h1 (by omega) h3
        · have hge : ¬ p < q1 := by simpa using ht
          have wi : IntKind.i64.wrap ((i : Int) + 1) = (i : Int) + 1 := w64 (by omega) (by omega)
          refine ⟨_, by simp -implicitDefEqProofs [t10, wi]; rfl, c.vs - (i + 1), by omega, i + 1, out, x, r, rfl, hS, hI.next hru (by rw [hq1]; omega), by simp [Rg, t2, t3, t7, t8, t9]⟩
      · have hge : ¬ i < r.length := by simpa using ht
        exact ⟨⟨out, x, r, hS, hI.fin (by omega) fun v a hv h1 h2 => hh a (hfm v a hv h1 h2)⟩, by simp [t7]⟩
    · rintro ⟨τ', H'⟩ ⟨⟨out, x, r, hS, hR⟩, t7⟩
      dsimp only at hS t7
      refine wa_sr ⟨_, by simp -implicitDefEqProofs [t7, rd_get hS.b7]; rfl, ?_⟩
      obtain ⟨X, hX⟩ := hS.hp.eq
      have ho := hS.ob
      rw [hX, show H.length + 1 = HB.length by rw [← hHBe]; simp] at ho
      rw [List.getElem?_append_right (Nat.le_refl _)] at ho
      simp only [Nat.sub_self] at ho
      obtain ⟨G, rfl⟩ : ∃ G, X = rB c.vs out :: G := by
        cases X with
        | nil => simp at ho
        | cons b G => simp at ho; exact ⟨G, by rw [ho]⟩
      refine wa_ret ⟨by simp, _, by simp; rfl, out, [cbox c xc], G, ?_, ?_, hR⟩
      · simp [pack]
      · rw [hX, hHBe]
  obtain ⟨w, H', h1, out, F, G, rfl, rfl, h2⟩ := key
  exact ⟨out, F, G, h1, h2⟩
end Go.Proofs.Ytpojdgeginigjaa
/- Cuts: left, From, To: the walks. -/
set_option linter.unusedSimpArgs false
set_option linter.unusedVariables false
namespace Go.Proofs.Ytpojdgeginigjaa
open Go Go.Ar
set_option maxRecDepth 100000

theorem csr_gw {n : Net} {c : Csr} (h : IsCsr n c) {nf : Nat} {f : Nat → Int} (hf : WithinP n nf f) : ∀ a, a < c.m → resG c f a := fun a ha => by
  obtain ⟨k, u, v, b, h1⟩ := csr_at h ha
  obtain ⟨f1, f2⟩ := hf.2.2 k h1.hk
  unfold resG
  rw [h1.arc]
  rcases h1.two with ⟨_, _, _, _, e, _⟩ | ⟨e, _⟩
  · right
    rw [e]; simp [f1, f2]
  · exact .inl e
theorem capB_chk {n : Net} (h : chk n = 0) : capB n.arcs := fun x hx => by
  obtain ⟨_, _, _, _, h5, h6⟩ := chk_zero h
  have := cap_le n.arcs h5 x hx
  have := ((sumOk_iff _).1 h6).2
  exact ⟨h5 x hx, by omega⟩

set_option maxHeartbeats 8000000 in
theorem left_ok {n : Net} {a y : V} {nf : Nat} {f : Nat → Int} {H : Heap} (h : AL H a n.arcs) (hy : TB H y nf fun j => .int .i64 (f j)) (hw : WithinP n nf f) :
    ∃ c xc kr G, callL E (.f 78) [NV n a, y] H = some (.tup [CVal c xc, .sl kr 0 c.m c.m, .int .i64 0], H ++ G) ∧ CA (H ++ G) c xc ∧ IsCsr n c ∧ (H ++ G)[kr]? = some (rI c.m (resF c f)) := by
  have key : ∃ w H', callL E (.f 78) [NV n a, y] H = some (w, H') ∧ ∃ c xc kr G, w = .tup [CVal c xc, .sl kr 0 c.m c.m, .int .i64 0] ∧ H' = H ++ G ∧ CA (H ++ G) c xc ∧ IsCsr n c ∧ (H ++ G)[kr]? = some (rI c.m (resF c f)) := by
    have hc0 := hw.1
    obtain ⟨vn, hvn, hv2, hv4, hlm, hin⟩ := chk_inN hc0
    have hl : lenOf a = some n.arcs.length := Rw.len h
    refine call_E rfl nc78 rfl ?_
    unfold gc78
    have hA := h.app [nbox n a, .cells [.int .i64 0, .int .i64 0, .int .i64 0, .nils, .nils, .nils, .nils, .nils, .nils] .ex]
    have hY := hy.app [nbox n a, .cells [.int .i64 0, .int .i64 0, .int .i64 0, .nils, .nils, .nils, .nils, .nils, .nils] .ex]
    have gb : (H ++ [nbox n a, .cells [.int .i64 0, .int .i64 0, .int .i64 0, .nils, .nils, .nils, .nils, .nils, .nils] .ex])[H.length]? = some (nbox n a) := by simp
    have gt : (H ++ [nbox n a, .cells [.int .i64 0, .int .i64 0, .int .i64 0, .nils, .nils, .nils, .nils, .nils, .nils] .ex])[H.length + 1]? = some (.cells [.int .i64 0, .int .i64 0, .int .i64 0, .nils, .nils, .nils, .nils, .nils, .nils] .ex) := by simp
    have hp := Hp.app H [nbox n a, .cells [.int .i64 0, .int .i64 0, .int .i64 0, .nils, .nils, .nils, .nils, .nils, .nils] .ex]
    unfold NV
    refine wa_sr ⟨_, by simp [len_cells hl]; rfl, ?_⟩
    change WP E _ ⟨_, H ++ [nbox n a, .cells [.int .i64 0, .int .i64 0, .int .i64 0, .nils, .nils, .nils, .nils, .nils, .nils] .ex]⟩ _
    generalize H ++ [nbox n a, .cells [.int .i64 0, .int .i64 0, .int .i64 0, .nils, .nils, .nils, .nils, .nils, .nils] .ex] = HA at *
    obtain ⟨G1, g1⟩ := (pc_within (b := true) hA (by omega) hY (by simp [hw])).run
    unfold NV at g1
    have b4 := rdn_all (X := []) (n := 4) gb rfl
    rw [List.append_nil] at b4
    refine wa_sr ⟨_, by simp -implicitDefEqProofs [b4, g1]; rfl, ?_⟩
    refine wa_if (t := false) (by simp) (fun h => by cases h) (fun _ => ?_)
    have hA := hA.app G1
    have hY := hY.app G1
    have gb := get_pre (X := G1) gb
    have gt := get_pre (X := G1) gt
    have hp := hp.x (Hp.app HA G1)
    refine wa_rg [(1, y), (2, .ptr H.length 0), (4, .ptr (H.length + 1) 0)] (by simp [Rg]) ?_
    change ∀ τ', Rg τ' _ → WP E _ ⟨τ', HA ++ G1⟩ _
    clear g1 b4
    generalize HA ++ G1 = HB at *
    rintro τ ⟨t1, t2, t4, -⟩
    dsimp only at t1 t2 t4
    obtain ⟨c, xc, G2, e1, hC, hI, hge⟩ := make_ok hA hc0
    have hcm := csr_m hI
    have hgt := lt_of_get gt
    unfold NV CVal at e1
    have b4 := rdn_all (X := []) (n := 4) gb rfl
    rw [List.append_nil] at b4
    have hY := hY.app G2
    have gt := get_pre (X := G2) gt
    have hp := hp.x (Hp.app HB G2)
    have hltB : HB.length ≤ (HB ++ G2).length := by simp
    have lkt := lt_of_get gt
    generalize HB ++ G2 = HZ at *
    refine wa_sr ⟨_, by simp -implicitDefEqProofs [t2, b4, e1, hC.s1, hC.s2, hC.s3, hC.s4, hC.s5, hC.s6]; rfl, ?_⟩
    have hY := hY.app [cbox c xc]
    have gt := get_pre (X := [cbox c xc]) gt
    have hC := hC.app [cbox c xc]
    have gc : (HZ ++ [cbox c xc])[HZ.length]? = some (cbox c xc) := by simp
    have hp := hp.x (Hp.app HZ [cbox c xc])
    refine wa_rg [(1, y), (4, .ptr (H.length + 1) 0), (7, .ptr HZ.length 0), (8, .int .i64 0)] (by simp [Rg, t1, t4]) ?_
    change ∀ τ', Rg τ' _ → WP E _ ⟨τ', HZ ++ [cbox c xc]⟩ _
    have hkt : H.length + 1 ≠ HZ.length := by omega
    generalize HZ ++ [cbox c xc] = HD at *
    generalize HZ.length = k7 at *
    clear e1 b4 t1 t2 t4 τ
    rintro τ ⟨t1, t4, t7, t8, -⟩
    dsimp only at t1 t4 t7 t8
    refine wa_sr ⟨_, by simp [t8]; rfl, ?_⟩
    refine wa_if (t := false) (by simp) (fun h => by cases h) (fun _ => ?_)
    have lkD := lt_of_get gt
    obtain ⟨hw1, hnf, hwi⟩ := hw
    subst hnf
    obtain ⟨F1, G3, e1⟩ := res_ok hC hY (by omega) (csr_k hI) (csr_c hI (capB_chk hc0)) (csr_gw hI ⟨hw1, rfl, hwi⟩)
    have c9 := rdn_all (X := []) (n := 9) gc rfl
    rw [List.append_nil] at c9
    unfold CVal at e1
    rw [List.append_assoc] at e1
    refine wa_sr ⟨_, by simp -implicitDefEqProofs [t1, t7, c9, e1]; rfl, ?_⟩
    have gr : (HD ++ (F1 ++ (rI c.m (resF c f) :: G3)))[(HD ++ F1).length]? = some (rI c.m (resF c f)) := by rw [← List.append_assoc]; simp
    have gt := get_pre (X := F1 ++ (rI c.m (resF c f) :: G3)) gt
    have gc := get_pre (X := F1 ++ (rI c.m (resF c f) :: G3)) gc
    have hC := hC.app (F1 ++ (rI c.m (resF c f) :: G3))
    have hp := hp.x (Hp.app HD (F1 ++ (rI c.m (resF c f) :: G3)))
    have hktr : (HD ++ F1).length ≠ H.length + 1 := by simp; omega
    refine wa_rg [(4, .ptr (H.length + 1) 0), (7, .ptr k7 0), (8, .int .i64 0), (9, .sl (HD ++ F1).length 0 c.m c.m)] (by simp [Rg, t4, t7]) ?_
    change ∀ τ', Rg τ' _ → WP E _ ⟨τ', HD ++ (F1 ++ (rI c.m (resF c f) :: G3))⟩ _
    clear e1 c9 t1 t4 t7 t8 τ
    generalize HD ++ (F1 ++ (rI c.m (resF c f) :: G3)) = HE at *
    generalize (HD ++ F1).length = kr at *
    rintro τ ⟨t4, t7, t8, t9, -⟩
    dsimp only at t4 t7 t8 t9
    have c9 := rdn_all (X := []) (n := 9) gc rfl
    rw [List.append_nil] at c9
    obtain ⟨HG, w, gG, oG, lG⟩ : ∃ X, wr HE (H.length + 1) 0 [.int .i64 c.N, .int .i64 c.S, .int .i64 c.T, xc.x1, xc.x2, xc.x3, xc.x4, xc.x5, xc.x6] = some X ∧ X[H.length + 1]? = some (cbox c xc) ∧ (∀ j, j ≠ H.length + 1 → X[j]? = HE[j]?) ∧ X.length = HE.length :=
      ⟨_, wrAll gt rfl rfl (by simp [hC.s1, hC.s2, hC.s3, hC.s4, hC.s5, hC.s6]), List.getElem?_set_self (lt_of_get gt), fun j hj => List.getElem?_set_ne (fun e => hj e.symm), by simp⟩
    have g9 := rdn_all (X := []) (n := 9) gG rfl
    rw [List.append_nil] at g9
    refine wa_sr ⟨_, by simp -implicitDefEqProofs [t4, t7, t8, t9, c9, w]; rfl, ?_⟩
    obtain ⟨GG, hGG⟩ := (Hp_frame hp lG oG (by omega)).eq
    refine wa_ret ⟨by simp, _, by simp -implicitDefEqProofs [t4, g9]; rfl, c, xc, kr, GG, rfl, hGG, ?_, hI, ?_⟩
    · rw [← hGG]
      exact hC.frame fun k hk => oG k (fun e => by have := hge k hk; omega)
    · rw [← hGG]
      exact (oG kr hktr).trans gr
  obtain ⟨w, H', h1, c, xc, kr, G, rfl, rfl, h2, h3, h4⟩ := key
  exact ⟨c, xc, kr, G, h1, h2, h3, h4⟩

theorem left_bad {n : Net} {a y : V} {nf : Nat} {f : Nat → Int} {H : Heap} (h : AL H a n.arcs) (hs : n.arcs.length ≤ 2 ^ 40) (hy : TB H y nf fun j => .int .i64 (f j)) (hw : ¬ WithinP n nf f) :
    ∃ G, callL E (.f 78) [NV n a, y] H = some (.tup [.agg [.int .i64 0, .int .i64 0, .int .i64 0, .nils, .nils, .nils, .nils, .nils, .nils], .nils, .int .i64 20], H ++ G) := by
  have key : ∃ w H', callL E (.f 78) [NV n a, y] H = some (w, H') ∧ ∃ G, w = .tup [.agg [.int .i64 0, .int .i64 0, .int .i64 0, .nils, .nils, .nils, .nils, .nils, .nils], .nils, .int .i64 20] ∧ H' = H ++ G := by
    refine call_E rfl nc78 rfl ?_
    unfold gc78
    have hl : lenOf a = some n.arcs.length := Rw.len h
    obtain ⟨G1, g1⟩ := (pc_within (b := false) (h.app [nbox n a, .cells [.int .i64 0, .int .i64 0, .int .i64 0, .nils, .nils, .nils, .nils, .nils, .nils] .ex]) hs (hy.app [nbox n a, .cells [.int .i64 0, .int .i64 0, .int .i64 0, .nils, .nils, .nils, .nils, .nils, .nils] .ex]) (by simp [hw])).run
    unfold NV nbox at g1
    unfold NV
    refine wa_sr ⟨_, by simp [len_cells hl]; rfl, ?_⟩
    refine wa_sr ⟨_, by simp -implicitDefEqProofs [g1]; rfl, ?_⟩
    refine wa_if (t := true) (by simp) (fun _ => ?_) (fun h => by cases h)
    refine wa_sr ⟨_, by simp -implicitDefEqProofs [fillc]; rfl, ?_⟩
    exact wa_rt ⟨by simp, _, by simp; rfl, _, rfl, by simp; rfl⟩
  obtain ⟨w, H', h1, G, rfl, rfl⟩ := key
  exact ⟨G, h1⟩
theorem cl80 {k a m kr : Nat} {r : Nat → Int} {H : Heap} (h1 : rd H k 0 = some (.sl kr 0 m m)) (h2 : H[kr]? = some (rI m r)) (ha : a < m) : callL E (.f 80) [.int .i64 a, .ptr k 0] H = some (.bool (decide (0 < r a)), H) := by
  have key : ∃ w H', callL E (.f 80) [.int .i64 a, .ptr k 0] H = some (w, H') ∧ w = .bool (decide (0 < r a)) ∧ H' = H := by
    refine call_E rfl nc80 rfl ?_
    unfold gc80
    have hr : rd H kr a = some (.int .i64 (r a)) := by rw [rd_get h2]; simp [ha]
    refine wa_sr ⟨_, by simp; rfl, ?_⟩
    refine wa_sr ⟨_, by simp -implicitDefEqProofs [h1, ha, hr]; rfl, ?_⟩
    exact wa_ret ⟨by simp, _, by simp; rfl, by simp [pack], rfl⟩
  obtain ⟨w, H', h, rfl, rfl⟩ := key
  exact h
theorem cl88 {k kc a b m kr : Nat} {r : Nat → Int} {c : Csr} {xc : CV} {H : Heap} (h1 : rd H k 0 = some (.sl kr 0 m m)) (h2 : H[kr]? = some (rI m r)) (h3 : rd H kc 5 = some xc.x3) (h4 : TB H xc.x3 m fun j => .int .i64 (c.rev j)) (ha : a < m) (hb : c.rev a = (b : Int)) (hbm : b < m) :
    callL E (.f 88) [.int .i64 a, .ptr k 0, .ptr kc 0] H = some (.bool (decide (0 < r b)), H) := by
  have key : ∃ w H', callL E (.f 88) [.int .i64 a, .ptr k 0, .ptr kc 0] H = some (w, H') ∧ w = .bool (decide (0 < r b)) ∧ H' = H := by
    refine call_E rfl nc88 rfl ?_
    unfold gc88
    have hr : rd H kr b = some (.int .i64 (r b)) := by rw [rd_get h2]; simp [hbm]
    obtain ⟨k3, o3, c3, e3, r3⟩ := h4.at0 ha
    rw [hb] at r3
    refine wa_sr ⟨_, by simp; rfl, ?_⟩
    refine wa_dr rfl rfl ⟨_, by simp -implicitDefEqProofs [h1, h3, e3, ha, r3, hbm, hr]; rfl, ?_⟩
    exact wa_ret ⟨by simp, _, by simp; rfl, by simp [pack], rfl⟩
  obtain ⟨w, H', h, rfl, rfl⟩ := key
  exact h
theorem csr_fm {n : Net} {c : Csr} (hI : IsCsr n c) : (∀ v a : Nat, v < c.vs → c.first v ≤ (a : Int) → (a : Int) < c.first (v + 1) → a < c.m) ∧ (∀ v, v ≤ c.vs → ∃ q : Nat, c.first v = (q : Int) ∧ q ≤ c.m) ∧ (∀ v, v < c.vs → c.first v ≤ c.first (v + 1)) ∧ ∀ a, a < c.m → ∃ w : Nat, c.head a = w ∧ w < c.vs := by
  refine ⟨fun v a hv _ h2 => ?_, fun v hv => ⟨fst n.arcs v, hI.fst v, ?_⟩, fun v _ => ?_, fun a ha => ?_⟩
  · rw [hI.fst] at h2
    have := fst_mono n.arcs (show v + 1 ≤ c.vs from hv)
    rw [hI.m]; omega
  · rw [hI.m]; exact fst_mono n.arcs hv
  · rw [hI.fst, hI.fst]; have := fst_mono n.arcs (show v ≤ v + 1 by omega); omega
  · obtain ⟨k, u, v, b, h⟩ := csr_at hI ha
    exact ⟨v, h.head, h.hv⟩

set_option maxHeartbeats 8000000 in
theorem from_ok {n : Net} {a y : V} {nf S vn : Nat} {f : Nat → Int} {H : Heap} (h : AL H a n.arcs) (hy : TB H y nf fun j => .int .i64 (f j)) (hw : WithinP n nf f) (hS : n.S = (S : Int)) (hN : n.N = (vn : Int)) :
    ∃ c out F G, IsCsr n c ∧ callL E (.f 33) [NV n a, y] H = some (.tup [.sl (H ++ F).length 0 vn vn, .int .i64 0], (H ++ F) ++ (rB vn out :: G)) ∧ ∀ v, v < vn → (out v = true ↔ Rch c (fun q => decide (0 < resF c f q)) S v) := by
  have key : ∃ w H', callL E (.f 33) [NV n a, y] H = some (w, H') ∧ ∃ c out F G, IsCsr n c ∧ w = .tup [.sl (H ++ F).length 0 vn vn, .int .i64 0] ∧ H' = (H ++ F) ++ (rB vn out :: G) ∧ ∀ v, v < vn → (out v = true ↔ Rch c (fun q => decide (0 < resF c f q)) S v) := by
    have hc0 := hw.1
    obtain ⟨vn', hvn, hv2, hv4, hlm, hin⟩ := chk_inN hc0
    obtain rfl : vn' = vn := by omega
    obtain ⟨_, _, h3, _⟩ := chk_zero hc0
    rw [okE_iff] at h3
    have hl : lenOf a = some n.arcs.length := Rw.len h
    refine call_E rfl nc33 rfl ?_
    unfold gc33
    obtain ⟨c, xc, kr, G1, e1, hC, hI, gr⟩ := left_ok (h.app [nbox n a]) (hy.app [nbox n a]) hw
    have hcm := csr_m hI
    have hvs : c.vs = vn' := by have := hI.vs; omega
    have gb : (H ++ [nbox n a] ++ G1)[H.length]? = some (nbox n a) := by simp
    have hpre : ∃ G', H ++ [nbox n a] ++ G1 = H ++ G' := ⟨_, by simp; rfl⟩
    unfold NV CVal nbox at e1
    unfold NV
    refine wa_sr ⟨_, by simp [len_cells hl]; rfl, ?_⟩
    unfold nbox at gb hC gr hpre
    generalize hHZ : H ++ [Blk.cells [.int .i64 n.N, .int .i64 n.S, .int .i64 n.T, a] .ex] ++ G1 = HZ at *
    have e1' : callL E (.f 78) [.agg [.int .i64 n.N, .int .i64 n.S, .int .i64 n.T, a], y] (H ++ [Blk.cells [.int .i64 n.N, .int .i64 n.S, .int .i64 n.T, a] .ex]) = some (.tup [.agg [.int .i64 c.N, .int .i64 c.S, .int .i64 c.T, xc.x1, xc.x2, xc.x3, xc.x4, xc.x5, xc.x6], .sl kr 0 c.m c.m, .int .i64 0], HZ) := e1
    refine wa_sr ⟨_, by simp -implicitDefEqProofs [e1', hC.s1, hC.s2, hC.s3, hC.s4, hC.s5, hC.s6]; rfl, ?_⟩
    have gc : (HZ ++ [cbox c xc, .cells [.sl kr 0 c.m c.m] .ex])[HZ.length]? = some (cbox c xc) := by simp
    have g7 : (HZ ++ [cbox c xc, .cells [.sl kr 0 c.m c.m] .ex])[HZ.length + 1]? = some (.cells [.sl kr 0 c.m c.m] .ex) := by simp
    have gb := get_pre (X := [cbox c xc, .cells [.sl kr 0 c.m c.m] .ex]) gb
    have gr := get_pre (X := [cbox c xc, .cells [.sl kr 0 c.m c.m] .ex]) gr
    have hC := hC.app [cbox c xc, .cells [.sl kr 0 c.m c.m] .ex]
    refine wa_rg [(2, .ptr H.length 0), (6, .ptr HZ.length 0), (7, .ptr (HZ.length + 1) 0), (8, .int .i64 0)] (by simp [Rg]) ?_
    change ∀ τ', Rg τ' _ → WP E _ ⟨τ', HZ ++ [cbox c xc, .cells [.sl kr 0 c.m c.m] .ex]⟩ _
    have hpre : ∃ G', HZ ++ [cbox c xc, .cells [.sl kr 0 c.m c.m] .ex] = H ++ G' := by obtain ⟨G', hG'⟩ := hpre; exact ⟨_, by rw [hG', List.append_assoc]⟩
    clear e1 e1' hHZ
    generalize HZ ++ [cbox c xc, .cells [.sl kr 0 c.m c.m] .ex] = HD at *
    generalize HZ.length = k6 at *
    rintro τ ⟨t2, t6, t7, t8, -⟩
    dsimp only at t2 t6 t7 t8
    refine wa_sr ⟨_, by simp [t8]; rfl, ?_⟩
    refine wa_if (t := false) (by simp) (fun h => by cases h) (fun _ => ?_)
    obtain ⟨m1, m2, m3, m4⟩ := csr_fm hI
    obtain ⟨out, F, G2, e2, hR⟩ := met_ok (g := 80) (caps := [.ptr (k6 + 1) 0]) (u0 := S) (may := fun q => decide (0 < resF c f q)) hC (by rw [hI.N]; exact hI.vs) (by omega) (by omega) (by omega) m1 m2 m3 m4 (fun H' hp q hq => by
      exact cl80 (rd_get ((hp.old _ (lt_of_get g7)).trans g7)) ((hp.old _ (lt_of_get gr)).trans gr) hq)
    have c9 := rdn_all (X := []) (n := 9) gc rfl
    rw [List.append_nil] at c9
    have b1 : rd HD H.length 1 = some (.int .i64 S) := by rw [rd_get gb, ← hS]; rfl
    unfold CVal at e2
    refine wa_sr ⟨_, by simp -implicitDefEqProofs [-List.append_assoc, -List.length_append, t2, t6, t7, c9, b1, e2]; rfl, ?_⟩
    rw [hvs] at hR ⊢
    obtain ⟨G', hG'⟩ := hpre
    exact wa_ret ⟨by simp, _, by simp; rfl, c, out, G' ++ F, G2, hI, by rw [hG']; simp [pack, Nat.add_assoc], by rw [hG']; simp, hR⟩
  obtain ⟨w, H', h1, c, out, F, G, hI, rfl, rfl, h2⟩ := key
  exact ⟨c, out, F, G, hI, h1, h2⟩
set_option maxHeartbeats 8000000 in
theorem to_ok {n : Net} {a y : V} {nf S vn : Nat} {f : Nat → Int} {H : Heap} (h : AL H a n.arcs) (hy : TB H y nf fun j => .int .i64 (f j)) (hw : WithinP n nf f) (hS : n.T = (S : Int)) (hN : n.N = (vn : Int)) :
    ∃ c out F G, IsCsr n c ∧ callL E (.f 43) [NV n a, y] H = some (.tup [.sl (H ++ F).length 0 vn vn, .int .i64 0], (H ++ F) ++ (rB vn out :: G)) ∧ ∀ v, v < vn → (out v = true ↔ ¬ Rch c (fun q => decide (0 < resF c f (c.rev q).toNat)) S v) := by
  have key : ∃ w H', callL E (.f 43) [NV n a, y] H = some (w, H') ∧ ∃ c out F G, IsCsr n c ∧ w = .tup [.sl (H ++ F).length 0 vn vn, .int .i64 0] ∧ H' = (H ++ F) ++ (rB vn out :: G) ∧ ∀ v, v < vn → (out v = true ↔ ¬ Rch c (fun q => decide (0 < resF c f (c.rev q).toNat)) S v) := by
    have hc0 := hw.1
    obtain ⟨vn', hvn, hv2, hv4, hlm, hin⟩ := chk_inN hc0
    obtain rfl : vn' = vn := by omega
    obtain ⟨_, _, h3, _⟩ := chk_zero hc0
    rw [okE_iff] at h3
    have hl : lenOf a = some n.arcs.length := Rw.len h
    refine call_E rfl nc43 rfl ?_
    unfold gc43
    obtain ⟨c, xc, kr, G1, e1, hC, hI, gr⟩ := left_ok (h.app [nbox n a]) (hy.app [nbox n a]) hw
    have hcm := csr_m hI
    have hvs : c.vs = vn' := by have := hI.vs; omega
    have gb : (H ++ [nbox n a] ++ G1)[H.length]? = some (nbox n a) := by simp
    have hpre : ∃ G', H ++ [nbox n a] ++ G1 = H ++ G' := ⟨_, by simp; rfl⟩
    unfold NV CVal nbox at e1
    unfold NV
    refine wa_sr ⟨_, by simp [len_cells hl]; rfl, ?_⟩
    unfold nbox at gb hC gr hpre
    generalize hHZ : H ++ [Blk.cells [.int .i64 n.N, .int .i64 n.S, .int .i64 n.T, a] .ex] ++ G1 = HZ at *
    have e1' : callL E (.f 78) [.agg [.int .i64 n.N, .int .i64 n.S, .int .i64 n.T, a], y] (H ++ [Blk.cells [.int .i64 n.N, .int .i64 n.S, .int .i64 n.T, a] .ex]) = some (.tup [.agg [.int .i64 c.N, .int .i64 c.S, .int .i64 c.T, xc.x1, xc.x2, xc.x3, xc.x4, xc.x5, xc.x6], .sl kr 0 c.m c.m, .int .i64 0], HZ) := e1
    refine wa_sr ⟨_, by simp -implicitDefEqProofs [e1', hC.s1, hC.s2, hC.s3, hC.s4, hC.s5, hC.s6]; rfl, ?_⟩
    have gc : (HZ ++ [cbox c xc, .cells [.sl kr 0 c.m c.m] .ex])[HZ.length]? = some (cbox c xc) := by simp
    have g7 : (HZ ++ [cbox c xc, .cells [.sl kr 0 c.m c.m] .ex])[HZ.length + 1]? = some (.cells [.sl kr 0 c.m c.m] .ex) := by simp
    have gb := get_pre (X := [cbox c xc, .cells [.sl kr 0 c.m c.m] .ex]) gb
    have gr := get_pre (X := [cbox c xc, .cells [.sl kr 0 c.m c.m] .ex]) gr
    have hC := hC.app [cbox c xc, .cells [.sl kr 0 c.m c.m] .ex]
    refine wa_rg [(2, .ptr H.length 0), (6, .ptr HZ.length 0), (7, .ptr (HZ.length + 1) 0), (8, .int .i64 0)] (by simp [Rg]) ?_
    change ∀ τ', Rg τ' _ → WP E _ ⟨τ', HZ ++ [cbox c xc, .cells [.sl kr 0 c.m c.m] .ex]⟩ _
    have hpre : ∃ G', HZ ++ [cbox c xc, .cells [.sl kr 0 c.m c.m] .ex] = H ++ G' := by obtain ⟨G', hG'⟩ := hpre; exact ⟨_, by rw [hG', List.append_assoc]⟩
    clear e1 e1' hHZ
    generalize HZ ++ [cbox c xc, .cells [.sl kr 0 c.m c.m] .ex] = HD at *
    generalize HZ.length = k6 at *
    rintro τ ⟨t2, t6, t7, t8, -⟩
    dsimp only at t2 t6 t7 t8
    refine wa_sr ⟨_, by simp [t8]; rfl, ?_⟩
    refine wa_if (t := false) (by simp) (fun h => by cases h) (fun _ => ?_)
    obtain ⟨m1, m2, m3, m4⟩ := csr_fm hI
    obtain ⟨out, F, G2, e2, hR⟩ := met_ok (g := 88) (caps := [.ptr (k6 + 1) 0, .ptr k6 0]) (u0 := S) (may := fun q => decide (0 < resF c f (c.rev q).toNat)) hC (by rw [hI.N]; exact hI.vs) (by omega) (by omega) (by omega) m1 m2 m3 m4 (fun H' hp q hq => by
      obtain ⟨b, hb, hbm⟩ := csr_r hI q hq
      have := cl88 (xc := xc) (c := c) (kc := k6) (rd_get ((hp.old _ (lt_of_get g7)).trans g7)) ((hp.old _ (lt_of_get gr)).trans gr) (rd_get (o := 5) ((hp.old _ (lt_of_get gc)).trans gc)) (hC.f3.frame fun k hk => hp.old k (hC.f3.lt k hk)) hq hb hbm
      rw [hb]
      simpa using this)
    have c9 := rdn_all (X := []) (n := 9) gc rfl
    rw [List.append_nil] at c9
    have b1 : rd HD H.length 2 = some (.int .i64 S) := by rw [rd_get gb, ← hS]; rfl
    unfold CVal at e2
    refine wa_sr ⟨_, by simp -implicitDefEqProofs [-List.append_assoc, -List.length_append, t2, t6, t7, c9, b1, e2]; rfl, ?_⟩
    rw [hvs] at hR
    have hpre : ∃ G', HD ++ F = H ++ G' := by obtain ⟨G', hG'⟩ := hpre; exact ⟨_, by rw [hG', List.append_assoc]⟩
    generalize HD ++ F = B1 at *
    refine wa_rg [(9, .sl B1.length 0 vn' vn')] (by simp [Rg, hvs]) ?_
    rw [hvs]
    rintro τ ⟨t9, -⟩
    dsimp only at t9
    refine wa_sr ⟨_, by simp [t9]; rfl, ?_⟩
    refine wa_cut (fun s => s.H = B1 ++ (rB vn' (fun v => !out v) :: G2) ∧ s.τ 9 = .sl B1.length 0 vn' vn') ?_ ?_
    · refine wa_for (n := vn') (fun i (_ : Unit) => [(9, .sl B1.length 0 vn' vn')]) (fun i _ H' => H' = B1 ++ (rB vn' (fun v => if v < i then !out v else out v) :: G2)) ()
        (by decide) (fun i hi => w64 (by omega) (by omega)) (by simp) (by simp) (by simp [Rg, t9]) (by simp [rB]) (by simp) ?_ ?_
      · clear t9 τ
        rintro i _ τ _ hi t28 t27 ⟨t9, -⟩ rfl
        dsimp only [ev] at *
        have hi2 : i + 1 ≤ vn' := hi
        have e : ∀ j, (if j = i then V.bool (!out i) else V.bool (if j < i then !out j else out j)) = V.bool (if j < i + 1 then !out j else out j) := fun j => by
          by_cases e1 : j = i
          · subst e1; simp
          · rw [if_neg e1]
            by_cases e2 : j < i
            · rw [if_pos e2, if_pos (by omega)]
            · rw [if_neg e2, if_neg (by omega)]
        have hrd : rd (B1 ++ rB vn' (fun v => if v < i then !out v else out v) :: G2) B1.length i = some (.bool (out i)) := by simp [rB, hi]
        have hwr : wr (B1 ++ rB vn' (fun v => if v < i then !out v else out v) :: G2) B1.length i [.bool (!out i)] = some (B1 ++ rB vn' (fun v => if v < i + 1 then !out v else out v) :: G2) := by
          have := wr1 (H := B1 ++ rB vn' (fun v => if v < i then !out v else out v) :: G2) (k := B1.length) (o := i) (v := .bool (!out i)) (cs := tb vn' fun v => V.bool (if v < i then !out v else out v)) (m := .ex) (by simp [rB, getElem?_app0]) rfl (by simpa using hi) rfl
          rw [this, tb_set]
          simp only [e]
          simp [set_app0, rB]
        refine wa_sr ⟨_, by simp [t28]; rfl, ?_⟩
        refine wa_regs ⟨_, by simp -implicitDefEqProofs [t9, t28, hi, hrd, hwr]; rfl, ?_⟩
        exact ⟨by simp [t28], by simp [t27], (), by simp [Rg, t9], rfl⟩
      · rintro _ τ H' ⟨t9, -⟩ h'
        refine ⟨h'.trans ?_, t9⟩
        have : rB vn' (fun v => if v < vn' then !out v else out v) = rB vn' (fun v => !out v) := by
          exact congrArg (fun x => Blk.cells x Ar.Mode.ex) (tb_congr fun j hj => by dsimp only; rw [if_pos hj])
        rw [this]
    · rintro ⟨τ', H'⟩ ⟨h', t9'⟩
      dsimp only at h' t9'
      subst h'
      refine wa_sr ⟨_, by simp -implicitDefEqProofs [t9']; rfl, ?_⟩
      obtain ⟨G', hG'⟩ := hpre
      exact wa_ret ⟨by simp, _, by simp; rfl, c, fun v => !out v, G', G2, hI, by rw [hG']; simp [pack], by rw [hG'], fun v hv => by rw [← hR v hv]; simp⟩
  obtain ⟨w, H', h1, c, out, F, G, hI, rfl, rfl, h2⟩ := key
  exact ⟨c, out, F, G, hI, h1, h2⟩

theorem from_bad {n : Net} {a y : V} {nf : Nat} {f : Nat → Int} {H : Heap} (h : AL H a n.arcs) (hs : n.arcs.length ≤ 2 ^ 40) (hy : TB H y nf fun j => .int .i64 (f j)) (hw : ¬ WithinP n nf f) :
    ∃ G, callL E (.f 33) [NV n a, y] H = some (.tup [.nils, .int .i64 20], H ++ G) := by
  have key : ∃ w H', callL E (.f 33) [NV n a, y] H = some (w, H') ∧ ∃ G, w = .tup [.nils, .int .i64 20] ∧ H' = H ++ G := by
    refine call_E rfl nc33 rfl ?_
    unfold gc33
    have hl : lenOf a = some n.arcs.length := Rw.len h
    obtain ⟨G1, g1⟩ := left_bad (h.app [nbox n a]) hs (hy.app [nbox n a]) hw
    unfold NV nbox at g1
    unfold NV
    refine wa_sr ⟨_, by simp [len_cells hl]; rfl, ?_⟩
    have hpre : ∃ G', H ++ [Blk.cells [.int .i64 n.N, .int .i64 n.S, .int .i64 n.T, a] .ex] ++ G1 = H ++ G' := ⟨_, by simp; rfl⟩
    generalize H ++ [Blk.cells [.int .i64 n.N, .int .i64 n.S, .int .i64 n.T, a] .ex] ++ G1 = HZ at *
    refine wa_sr ⟨_, by simp -implicitDefEqProofs [g1]; rfl, ?_⟩
    refine wa_sr ⟨_, by simp; rfl, ?_⟩
    refine wa_if (t := true) (by simp) (fun _ => ?_) (fun h => by cases h)
    refine wa_sr ⟨_, by simp; rfl, ?_⟩
    obtain ⟨G', rfl⟩ := hpre
    exact wa_rt ⟨by simp, _, by simp; rfl, _, rfl, by simp; rfl⟩
  obtain ⟨w, H', h1, G, rfl, rfl⟩ := key
  exact ⟨G, h1⟩
theorem to_bad {n : Net} {a y : V} {nf : Nat} {f : Nat → Int} {H : Heap} (h : AL H a n.arcs) (hs : n.arcs.length ≤ 2 ^ 40) (hy : TB H y nf fun j => .int .i64 (f j)) (hw : ¬ WithinP n nf f) :
    ∃ G, callL E (.f 43) [NV n a, y] H = some (.tup [.nils, .int .i64 20], H ++ G) := by
  have key : ∃ w H', callL E (.f 43) [NV n a, y] H = some (w, H') ∧ ∃ G, w = .tup [.nils, .int .i64 20] ∧ H' = H ++ G := by
    refine call_E rfl nc43 rfl ?_
    unfold gc43
    have hl : lenOf a = some n.arcs.length := Rw.len h
    obtain ⟨G1, g1⟩ := left_bad (h.app [nbox n a]) hs (hy.app [nbox n a]) hw
    unfold NV nbox at g1
    unfold NV
    refine wa_sr ⟨_, by simp [len_cells hl]; rfl, ?_⟩
    have hpre : ∃ G', H ++ [Blk.cells [.int .i64 n.N, .int .i64 n.S, .int .i64 n.T, a] .ex] ++ G1 = H ++ G' := ⟨_, by simp; rfl⟩
    generalize H ++ [Blk.cells [.int .i64 n.N, .int .i64 n.S, .int .i64 n.T, a] .ex] ++ G1 = HZ at *
    refine wa_sr ⟨_, by simp -implicitDefEqProofs [g1]; rfl, ?_⟩
    refine wa_sr ⟨_, by simp; rfl, ?_⟩
    refine wa_if (t := true) (by simp) (fun _ => ?_) (fun h => by cases h)
    refine wa_sr ⟨_, by simp; rfl, ?_⟩
    obtain ⟨G', rfl⟩ := hpre
    exact wa_rt ⟨by simp, _, by simp; rfl, _, rfl, by simp; rfl⟩
  obtain ⟨w, H', h1, G, rfl, rfl⟩ := key
  exact ⟨G, h1⟩
theorem pc_bools {a b : V} {n : Nat} {f : Nat → Bool} {H : Heap} (h1 : TB H a n fun j => .bool (f j)) (h2 : TB H b n fun j => .bool (f j)) (hs : n ≤ 2 ^ 40) : Pc E 70 [a, b] H (.bool true) := Pc.mk fun G => by
  have hA := h1.app G
  have hB := h2.app G
  clear h1 h2
  generalize H ++ G = H1 at *
  have la := hA.len
  have lb := hB.len
  refine call_E rfl nc70 rfl ?_
  unfold gc70
  refine wa_sr ⟨_, by simp; rfl, ?_⟩
  refine wa_sr ⟨_, by simp [la, lb]; rfl, ?_⟩
  refine wa_if (t := false) (by simp) (fun h => by cases h) (fun _ => ?_)
  refine wa_sr ⟨_, by simp [la]; rfl, ?_⟩
  refine wa_cut (fun s => s.H = H1) ?_ ?_
  · refine wa_for (n := n) (fun i (_ : Unit) => [(0, a), (1, b)]) (fun i _ H' => H' = H1) () (by decide) (fun i hi => w64 (by omega) (by omega)) (by simp) (by simp) (by simp [Rg]) rfl (by simp) ?_ ?_
    · rintro i _ τ _ hi t13 t12 ⟨t0, t1, -⟩ rfl
      dsimp only [ev] at *
      obtain ⟨ka, oa, ca, ea, ra⟩ := hA.at0 hi
      obtain ⟨kb, ob, cb, eb, rb⟩ := hB.at0 hi
      refine wa_sr ⟨_, by simp [t13]; rfl, ?_⟩
      refine wa_dr rfl rfl ⟨_, by simp -implicitDefEqProofs [t13, t0, t1, ea, eb, hi, ra, rb]; rfl, ?_⟩
      refine wa_cond (t := false) (by simp) (fun h => by cases h) (fun _ => wa_skip ?_)
      exact ⟨by simp [t13], by simp [t12], (), by simp [Rg, t0, t1, ea, eb], rfl⟩
    · rintro _ τ _ _ rfl; rfl
  · rintro ⟨τ, H'⟩ h
    dsimp only at h
    subst h
    refine wa_sr ⟨_, by simp; rfl, ?_⟩
    exact wa_ret ⟨by simp, _, by simp; rfl, rfl, [], by simp⟩

/-! ### Whom one meets, by arcs of the net -/
theorem rch_ind {n : Net} {c : Csr} {f : Nat → Int} (hI : IsCsr n c) (hf : ∀ i (hi : i < n.arcs.length), 0 ≤ f i ∧ f i ≤ n.arcs[i].cap) {u0 : Nat} {P : Nat → Prop} (h0 : P u0)
    (h1 : ∀ i (hi : i < n.arcs.length) (s d : Nat), n.arcs[i].src = s → n.arcs[i].dst = d → f i < n.arcs[i].cap → P s → P d) (h2 : ∀ i (hi : i < n.arcs.length) (s d : Nat), n.arcs[i].src = s → n.arcs[i].dst = d → 0 < f i → P d → P s) :
    ∀ v, Rch c (fun q => decide (0 < resF c f q)) u0 v → P v := fun v hv => by
  induction hv with
  | refl => exact h0
  | @step u a w _ q1 q2 q3 q4 ih =>
    have ham : a < c.m := by
      by_cases hu : u < c.vs
      · exact (csr_fm hI).1 u a hu q1 q2
      · rw [hI.fst] at q1 q2
        exfalso
        have h5 : fst n.arcs (u + 1) = fst n.arcs u := by
          simp only [fst]
          have : deg n.arcs u = 0 := by
            unfold deg
            rw [List.countP_eq_zero]
            intro x hx hi
            obtain ⟨s, d, e1, e2, hs, hd⟩ := hI.inn x hx
            rw [inc_iff] at hi
            omega
          omega
        omega
    obtain ⟨k, u', v, b, h⟩ := csr_at hI ham
    rw [hI.fst] at q1 q2
    have hvx : u' = u := at_vertex (w := u) h (by omega) (by omega)
    subst hvx
    have hvw : v = w := by have := h.head; omega
    subst hvw
    have hres := resF_at (f := f) h
    simp only [decide_eq_true_eq] at q3
    rw [hres] at q3
    rcases h.two with ⟨e1, _, e3, e4, e5, _⟩ | ⟨e1, _, e3, e4, e5, _⟩
    · rw [e1, e5] at q3
      exact h1 k h.hk u' v e3 e4 (by simp at q3; omega) ih
    · rw [e1] at q3
      exact h2 k h.hk v u' e3 e4 (by simpa using q3) ih
theorem rch_fwd {n : Net} {c : Csr} {f : Nat → Int} (hI : IsCsr n c) {u0 i s d : Nat} (hi : i < n.arcs.length) (e1 : n.arcs[i].src = (s : Int)) (e2 : n.arcs[i].dst = (d : Int)) (hf : f i < n.arcs[i].cap) (h : Rch c (fun q => decide (0 < resF c f q)) u0 s) : Rch c (fun q => decide (0 < resF c f q)) u0 d := by
  by_cases hne : s = d
  · rw [← hne]; exact h
  obtain ⟨i1, i2⟩ := inc_l e1 e2 hne
  obtain ⟨⟨g1, g2, g3, g4, g5⟩, _⟩ := hI.fil i hi hi s d e1 e2 hne
  have p1 := pos_ge n.arcs i s
  have p2 := pos_lt hi i1
  refine .step (a := pos n.arcs i s) h (by rw [hI.fst]; omega) (by rw [hI.fst]; omega) ?_ g1
  unfold resF
  rw [if_neg (by simp [g5]), g3, g4]
  simp; omega
theorem rch_bwd {n : Net} {c : Csr} {f : Nat → Int} (hI : IsCsr n c) {u0 i s d : Nat} (hi : i < n.arcs.length) (e1 : n.arcs[i].src = (s : Int)) (e2 : n.arcs[i].dst = (d : Int)) (hf : 0 < f i) (h : Rch c (fun q => decide (0 < resF c f q)) u0 d) : Rch c (fun q => decide (0 < resF c f q)) u0 s := by
  by_cases hne : s = d
  · rw [hne]; exact h
  obtain ⟨i1, i2⟩ := inc_l e1 e2 hne
  obtain ⟨_, g1, g2, g3, g4, g5⟩ := hI.fil i hi hi s d e1 e2 hne
  have p1 := pos_ge n.arcs i d
  have p2 := pos_lt hi i2
  refine .step (a := pos n.arcs i d) h (by rw [hI.fst]; omega) (by rw [hI.fst]; omega) ?_ g1
  unfold resF
  rw [if_pos g5, g4]
  simpa using hf
end Go.Proofs.Ytpojdgeginigjaa
/- The flat code of functions. -/
set_option linter.unusedSimpArgs false
set_option linter.unusedVariables false
namespace Go.Proofs.Ytpojdgeginigjaa
open Go Go.Ar
set_option maxRecDepth 100000
def gc19 : MC := (.seq (.reg [⟨(.some 2), (.box 4 (.t 0)), .none⟩, ⟨(.some 4), (.mv (.c (.bool .false))), .none⟩]) (.seq (.reg [⟨(.some 14), (.load 4 .true (.t 2)), .none⟩, ⟨(.some 15), (.call (.c (.fn 31 [] [])) [(.t 14), (.c (.int .i64 30)), (.c (.int .i64 60))]), .none⟩, ⟨.none, (.store 4 (.t 2) (.t 15)), .none⟩]) (.seq (.reg [⟨(.some 16), (.load 4 .true (.t 2)), .none⟩, ⟨(.some 17), (.mv (.t 1)), .none⟩, ⟨(.some 18), (.call (.c (.fn 45 [] [])) [(.t 16), (.t 17)]), .none⟩, ⟨(.some 5), (.mv (.t 18)), .none⟩]) (.seq (.reg [⟨(.some 20), (.load 4 .true (.t 2)), .none⟩, ⟨(.some 21), (.mv (.t 5)), .none⟩, ⟨(.some 22), (.call (.c (.fn 33 [] [])) [(.t 20), (.t 21)]), .none⟩, ⟨(.some 19), (.mv (.t 22)), .none⟩, ⟨(.some 23), (.ext (.t 19) 0), .none⟩, ⟨(.some 24), (.ext (.t 19) 1), .none⟩, ⟨(.some 6), (.mv (.t 23)), .none⟩, ⟨(.some 7), (.mv (.t 24)), .none⟩]) (.seq (.reg [⟨(.some 26), (.load 4 .true (.t 2)), .none⟩, ⟨(.some 27), (.mv (.t 5)), .none⟩, ⟨(.some 28), (.call (.c (.fn 43 [] [])) [(.t 26), (.t 27)]), .none⟩, ⟨(.some 25), (.mv (.t 28)), .none⟩, ⟨(.some 29), (.ext (.t 25) 0), .none⟩, ⟨(.some 30), (.ext (.t 25) 1), .none⟩, ⟨(.some 8), (.mv (.t 29)), .none⟩, ⟨(.some 9), (.mv (.t 30)), .none⟩]) (.seq (.dreg 0 [(.plain, ⟨(.some 31), (.mv (.t 7)), .none⟩), (.plain, ⟨(.some 32), (.bin .neq (.t 31) (.c (.int .i64 0))), .none⟩), (.plain, ⟨(.some 33), (.mv (.t 32)), .none⟩), (.plain, ⟨(.some 34), (.mv (.t 9)), (.some (33, .false))⟩), (.plain, ⟨(.some 35), (.bin .neq (.t 34) (.c (.int .i64 0))), (.some (33, .false))⟩), (.plain, ⟨(.some 36), (.pick (.t 33) (.c (.bool .true)) (.t 35)), .none⟩), (.plain, ⟨(.some 37), (.mv (.t 36)), .none⟩), (.plain, ⟨(.some 38), (.mv (.t 6)), (.some (37, .false))⟩), (.plain, ⟨(.some 39), (.len (.t 38)), (.some (37, .false))⟩), (.plain, ⟨(.some 40), (.fadr 0 (.t 2)), (.some (37, .false))⟩), (.plain, ⟨(.some 41), (.load 1 .false (.t 40)), (.some (37, .false))⟩), (.plain, ⟨(.some 42), (.bin .neq (.t 39) (.t 41)), (.some (37, .false))⟩), (.plain, ⟨(.some 43), (.pick (.t 37) (.c (.bool .true)) (.t 42)), .none⟩), (.plain, ⟨(.some 44), (.mv (.t 43)), .none⟩), (.plain, ⟨(.some 45), (.mv (.t 8)), (.some (44, .false))⟩), (.plain, ⟨(.some 46), (.len (.t 45)), (.some (44, .false))⟩), (.plain, ⟨(.some 47), (.fadr 0 (.t 2)), (.some (44, .false))⟩), (.plain, ⟨(.some 48), (.load 1 .false (.t 47)), (.some (44, .false))⟩), (.plain, ⟨(.some 49), (.bin .neq (.t 46) (.t 48)), (.some (44, .false))⟩), (.plain, ⟨(.some 50), (.pick (.t 44) (.c (.bool .true)) (.t 49)), .none⟩), (.plain, ⟨(.some 51), (.mv (.t 50)), .none⟩), (.plain, ⟨(.some 52), (.mv (.t 6)), (.some (51, .false))⟩), (.plain, ⟨(.some 53), (.fadr 1 (.t 2)), (.some (51, .false))⟩), (.plain, ⟨(.some 54), (.load 1 .false (.t 53)), (.some (51, .false))⟩), (.plain, ⟨(.some 55), (.iadr 1 (.t 52) (.t 54)), (.some (51, .false))⟩), (.plain, ⟨(.some 56), (.load 1 .false (.t 55)), (.some (51, .false))⟩), (.plain, ⟨(.some 57), (.not (.t 56)), (.some (51, .false))⟩), (.plain, ⟨(.some 58), (.pick (.t 51) (.c (.bool .true)) (.t 57)), .none⟩), (.plain, ⟨(.some 59), (.mv (.t 58)), .none⟩), (.plain, ⟨(.some 60), (.mv (.t 8)), (.some (59, .false))⟩), (.plain, ⟨(.some 61), (.fadr 2 (.t 2)), (.some (59, .false))⟩), (.plain, ⟨(.some 62), (.load 1 .false (.t 61)), (.some (59, .false))⟩), (.plain, ⟨(.some 63), (.iadr 1 (.t 60) (.t 62)), (.some (59, .false))⟩), (.plain, ⟨(.some 64), (.load 1 .false (.t 63)), (.some (59, .false))⟩), (.plain, ⟨(.some 65), (.pick (.t 59) (.c (.bool .true)) (.t 64)), .none⟩), (.plain, ⟨(.some 66), (.mv (.t 65)), .none⟩), (.plain, ⟨(.some 67), (.load 4 .true (.t 2)), (.some (66, .false))⟩), (.plain, ⟨(.some 68), (.mv (.t 6)), (.some (66, .false))⟩), ((.pcall []), ⟨(.some 69), (.call (.c (.fn 63 [] [])) [(.t 67), (.t 68)]), (.some (66, .false))⟩), (.plain, ⟨(.some 70), (.load 4 .true (.t 2)), (.some (66, .false))⟩), (.plain, ⟨(.some 71), (.mv (.t 8)), (.some (66, .false))⟩), (.plain, ⟨(.some 72), (.call (.c (.fn 63 [] [])) [(.t 70), (.t 71)]), (.some (66, .false))⟩), (.plain, ⟨(.some 73), (.eq .true .bool (.t 69) (.t 72)), (.some (66, .false))⟩), (.plain, ⟨(.some 74), (.pick (.t 66) (.c (.bool .true)) (.t 73)), .none⟩), (.plain, ⟨(.some 75), (.mv (.t 74)), .none⟩), (.plain, ⟨(.some 76), (.load 4 .true (.t 2)), (.some (75, .false))⟩), (.plain, ⟨(.some 77), (.mv (.t 6)), (.some (75, .false))⟩), ((.pcall []), ⟨(.some 78), (.call (.c (.fn 63 [] [])) [(.t 76), (.t 77)]), (.some (75, .false))⟩), (.plain, ⟨(.some 79), (.mv (.t 6)), (.some (75, .false))⟩), (.plain, ⟨(.some 80), (.fadr 2 (.t 2)), (.some (75, .false))⟩), (.plain, ⟨(.some 81), (.load 1 .false (.t 80)), (.some (75, .false))⟩), (.plain, ⟨(.some 82), (.iadr 1 (.t 79) (.t 81)), (.some (75, .false))⟩), (.plain, ⟨(.some 83), (.load 1 .false (.t 82)), (.some (75, .false))⟩), (.plain, ⟨(.some 84), (.not (.t 83)), (.some (75, .false))⟩), (.plain, ⟨(.some 85), (.eq .true .bool (.t 78) (.t 84)), (.some (75, .false))⟩), (.plain, ⟨(.some 86), (.pick (.t 75) (.c (.bool .true)) (.t 85)), .none⟩)] [(.lt (.t 2)), (.lt (.t 80)), (.lt (.t 82))]) (.seq (.cond (.t 86) (.seq (.reg [⟨(.some 4), (.mv (.c (.bool .false))), .none⟩]) .ret) .skip) (.seq (.reg [⟨(.some 10), (.mv (.c (.bool .false))), .none⟩]) (.seq (.reg [⟨(.some 87), (.mv (.t 6)), .none⟩, ⟨(.some 88), (.len (.t 87)), .none⟩, ⟨(.some 89), (.mv (.c (.int .i64 0))), .none⟩]) (.seq (.block 0 (.loop (.seq (.reg [⟨(.some 90), (.bin .lss (.t 89) (.t 88)), .none⟩]) (.seq (.cond (.t 90) .skip (.exit 0)) (.seq (.block 1 (.seq (.reg [⟨(.some 91), (.mv (.t 89)), .none⟩, ⟨(.some 11), (.mv (.t 91)), .none⟩]) (.reg [⟨(.some 92), (.mv (.t 10)), .none⟩, ⟨(.some 93), (.mv (.t 92)), .none⟩, ⟨(.some 94), (.mv (.t 6)), (.some (93, .false))⟩, ⟨(.some 95), (.mv (.t 11)), (.some (93, .false))⟩, ⟨(.some 96), (.iadr 1 (.t 94) (.t 95)), (.some (93, .false))⟩, ⟨(.some 97), (.load 1 .false (.t 96)), (.some (93, .false))⟩, ⟨(.some 98), (.mv (.t 97)), (.some (93, .false))⟩, ⟨(.some 99), (.mv (.t 8)), (.some (98, .true))⟩, ⟨(.some 100), (.mv (.t 11)), (.some (98, .true))⟩, ⟨(.some 101), (.iadr 1 (.t 99) (.t 100)), (.some (98, .true))⟩, ⟨(.some 102), (.load 1 .false (.t 101)), (.some (98, .true))⟩, ⟨(.some 103), (.not (.t 102)), (.some (98, .true))⟩, ⟨(.some 104), (.pick (.t 98) (.t 103) (.c (.bool .false))), (.some (93, .false))⟩, ⟨(.some 105), (.pick (.t 93) (.c (.bool .true)) (.t 104)), .none⟩, ⟨(.some 10), (.mv (.t 105)), .none⟩]))) (.reg [⟨(.some 106), (.bin .add (.t 89) (.c (.int .i64 1))), .none⟩, ⟨(.some 89), (.mv (.t 106)), .none⟩])))))) (.seq (.reg [⟨(.some 107), (.fadr 3 (.t 2)), .none⟩, ⟨(.some 108), (.load 1 .false (.t 107)), .none⟩, ⟨(.some 109), (.len (.t 108)), .none⟩, ⟨(.some 110), (.mv (.c (.int .i64 0))), .none⟩]) (.seq (.block 2 (.loop (.seq (.reg [⟨(.some 111), (.bin .lss (.t 110) (.t 109)), .none⟩]) (.seq (.cond (.t 111) .skip (.exit 2)) (.seq (.block 3 (.seq (.reg [⟨(.some 112), (.mv (.t 110)), .none⟩, ⟨(.some 113), (.iadr 3 (.t 108) (.t 110)), .none⟩, ⟨(.some 114), (.load 3 .true (.t 113)), .none⟩, ⟨(.some 13), (.alloc [(.int .i64 0), (.int .i64 0), (.int .i64 0)]), .none⟩, ⟨(.some 12), (.mv (.t 112)), .none⟩, ⟨.none, (.store 3 (.t 13) (.t 114)), .none⟩]) (.seq (.dreg 0 [(.plain, ⟨(.some 115), (.mv (.t 5)), .none⟩), (.plain, ⟨(.some 116), (.mv (.t 12)), .none⟩), (.plain, ⟨(.some 117), (.iadr 1 (.t 115) (.t 116)), .none⟩), (.plain, ⟨(.some 118), (.load 1 .false (.t 117)), .none⟩), (.plain, ⟨(.some 119), (.fadr 2 (.t 13)), .none⟩), (.plain, ⟨(.some 120), (.load 1 .false (.t 119)), .none⟩), (.plain, ⟨(.some 121), (.bin .lss (.t 118) (.t 120)), .none⟩), (.plain, ⟨(.some 122), (.mv (.t 121)), .none⟩), (.plain, ⟨(.some 123), (.mv (.t 6)), (.some (122, .true))⟩), (.plain, ⟨(.some 124), (.fadr 0 (.t 13)), (.some (122, .true))⟩), (.plain, ⟨(.some 125), (.load 1 .false (.t 124)), (.some (122, .true))⟩), (.plain, ⟨(.some 126), (.iadr 1 (.t 123) (.t 125)), (.some (122, .true))⟩), (.plain, ⟨(.some 127), (.load 1 .false (.t 126)), (.some (122, .true))⟩), (.plain, ⟨(.some 128), (.mv (.t 127)), (.some (122, .true))⟩), (.plain, ⟨(.some 129), (.mv (.t 6)), (.some (128, .true))⟩), (.plain, ⟨(.some 130), (.fadr 1 (.t 13)), (.some (128, .true))⟩), (.plain, ⟨(.some 131), (.load 1 .false (.t 130)), (.some (128, .true))⟩), (.plain, ⟨(.some 132), (.iadr 1 (.t 129) (.t 131)), (.some (128, .true))⟩), (.plain, ⟨(.some 133), (.load 1 .false (.t 132)), (.some (128, .true))⟩), (.plain, ⟨(.some 134), (.not (.t 133)), (.some (128, .true))⟩), (.plain, ⟨(.some 135), (.pick (.t 128) (.t 134) (.c (.bool .false))), (.some (122, .true))⟩), (.plain, ⟨(.some 136), (.mv (.t 135)), (.some (122, .true))⟩), (.plain, ⟨(.some 137), (.mv (.t 8)), (.some (136, .false))⟩), (.plain, ⟨(.some 138), (.fadr 1 (.t 13)), (.some (136, .false))⟩), (.plain, ⟨(.some 139), (.load 1 .false (.t 138)), (.some (136, .false))⟩), (.plain, ⟨(.some 140), (.iadr 1 (.t 137) (.t 139)), (.some (136, .false))⟩), (.plain, ⟨(.some 141), (.load 1 .false (.t 140)), (.some (136, .false))⟩), (.plain, ⟨(.some 142), (.not (.t 141)), (.some (136, .false))⟩), (.plain, ⟨(.some 143), (.mv (.t 142)), (.some (136, .false))⟩), (.plain, ⟨(.some 144), (.mv (.t 8)), (.some (143, .true))⟩), (.plain, ⟨(.some 145), (.fadr 0 (.t 13)), (.some (143, .true))⟩), (.plain, ⟨(.some 146), (.load 1 .false (.t 145)), (.some (143, .true))⟩), (.plain, ⟨(.some 147), (.iadr 1 (.t 144) (.t 146)), (.some (143, .true))⟩), (.plain, ⟨(.some 148), (.load 1 .false (.t 147)), (.some (143, .true))⟩), (.plain, ⟨(.some 149), (.pick (.t 143) (.t 148) (.c (.bool .false))), (.some (136, .false))⟩), (.plain, ⟨(.some 150), (.pick (.t 136) (.c (.bool .true)) (.t 149)), (.some (122, .true))⟩), (.plain, ⟨(.some 151), (.pick (.t 122) (.t 150) (.c (.bool .false))), .none⟩), (.plain, ⟨(.some 152), (.mv (.t 151)), .none⟩), (.plain, ⟨(.some 153), (.mv (.t 5)), (.some (152, .false))⟩), (.plain, ⟨(.some 154), (.mv (.t 12)), (.some (152, .false))⟩), (.plain, ⟨(.some 155), (.iadr 1 (.t 153) (.t 154)), (.some (152, .false))⟩), (.plain, ⟨(.some 156), (.load 1 .false (.t 155)), (.some (152, .false))⟩), (.plain, ⟨(.some 157), (.bin .gtr (.t 156) (.c (.int .i64 0))), (.some (152, .false))⟩), (.plain, ⟨(.some 158), (.mv (.t 157)), (.some (152, .false))⟩), (.plain, ⟨(.some 159), (.mv (.t 6)), (.some (158, .true))⟩), (.plain, ⟨(.some 160), (.fadr 1 (.t 13)), (.some (158, .true))⟩), (.plain, ⟨(.some 161), (.load 1 .false (.t 160)), (.some (158, .true))⟩), (.plain, ⟨(.some 162), (.iadr 1 (.t 159) (.t 161)), (.some (158, .true))⟩), (.plain, ⟨(.some 163), (.load 1 .false (.t 162)), (.some (158, .true))⟩), (.plain, ⟨(.some 164), (.mv (.t 163)), (.some (158, .true))⟩), (.plain, ⟨(.some 165), (.mv (.t 6)), (.some (164, .true))⟩), (.plain, ⟨(.some 166), (.fadr 0 (.t 13)), (.some (164, .true))⟩), (.plain, ⟨(.some 167), (.load 1 .false (.t 166)), (.some (164, .true))⟩), (.plain, ⟨(.some 168), (.iadr 1 (.t 165) (.t 167)), (.some (164, .true))⟩), (.plain, ⟨(.some 169), (.load 1 .false (.t 168)), (.some (164, .true))⟩), (.plain, ⟨(.some 170), (.not (.t 169)), (.some (164, .true))⟩), (.plain, ⟨(.some 171), (.pick (.t 164) (.t 170) (.c (.bool .false))), (.some (158, .true))⟩), (.plain, ⟨(.some 172), (.mv (.t 171)), (.some (158, .true))⟩), (.plain, ⟨(.some 173), (.mv (.t 8)), (.some (172, .false))⟩), (.plain, ⟨(.some 174), (.fadr 0 (.t 13)), (.some (172, .false))⟩), (.plain, ⟨(.some 175), (.load 1 .false (.t 174)), (.some (172, .false))⟩), (.plain, ⟨(.some 176), (.iadr 1 (.t 173) (.t 175)), (.some (172, .false))⟩), (.plain, ⟨(.some 177), (.load 1 .false (.t 176)), (.some (172, .false))⟩), (.plain, ⟨(.some 178), (.not (.t 177)), (.some (172, .false))⟩), (.plain, ⟨(.some 179), (.mv (.t 178)), (.some (172, .false))⟩), (.plain, ⟨(.some 180), (.mv (.t 8)), (.some (179, .true))⟩), (.plain, ⟨(.some 181), (.fadr 1 (.t 13)), (.some (179, .true))⟩), (.plain, ⟨(.some 182), (.load 1 .false (.t 181)), (.some (179, .true))⟩), (.plain, ⟨(.some 183), (.iadr 1 (.t 180) (.t 182)), (.some (179, .true))⟩), (.plain, ⟨(.some 184), (.load 1 .false (.t 183)), (.some (179, .true))⟩), (.plain, ⟨(.some 185), (.pick (.t 179) (.t 184) (.c (.bool .false))), (.some (172, .false))⟩), (.plain, ⟨(.some 186), (.pick (.t 172) (.c (.bool .true)) (.t 185)), (.some (158, .true))⟩), (.plain, ⟨(.some 187), (.pick (.t 158) (.t 186) (.c (.bool .false))), (.some (152, .false))⟩), (.plain, ⟨(.some 188), (.pick (.t 152) (.c (.bool .true)) (.t 187)), .none⟩)] []) (.cond (.t 188) (.seq (.reg [⟨(.some 4), (.mv (.c (.bool .false))), .none⟩]) .ret) .skip)))) (.reg [⟨(.some 189), (.bin .add (.t 110) (.c (.int .i64 1))), .none⟩, ⟨(.some 110), (.mv (.t 189)), .none⟩])))))) (.seq (.reg [⟨(.some 190), (.mv (.t 10)), .none⟩, ⟨(.some 191), (.mv (.t 6)), .none⟩, ⟨(.some 192), (.fadr 2 (.t 2)), .none⟩, ⟨(.some 193), (.load 1 .false (.t 192)), .none⟩, ⟨(.some 194), (.iadr 1 (.t 191) (.t 193)), .none⟩, ⟨(.some 195), (.load 1 .false (.t 194)), .none⟩, ⟨(.some 196), (.eq .false .bool (.t 190) (.t 195)), .none⟩, ⟨(.some 197), (.mv (.t 196)), .none⟩, ⟨(.some 198), (.call (.c (.fn 64 [] [])) []), (.some (197, .true))⟩, ⟨(.some 199), (.pick (.t 197) (.t 198) (.c (.bool .false))), .none⟩, ⟨(.some 4), (.mv (.t 199)), .none⟩]) .ret)))))))))))))
theorem nc19 : nc Try.prog 19 = some (2, [(.t 4)], gc19) := by kernel_rfl
def gc20 : MC := (.seq (.reg [⟨(.some 3), (.box 4 (.t 0)), .none⟩, ⟨(.some 6), (.mv (.c (.bool .false))), .none⟩]) (.seq (.reg [⟨(.some 17), (.load 4 .true (.t 3)), .none⟩, ⟨(.some 18), (.call (.c (.fn 31 [] [])) [(.t 17), (.c (.int .i64 30)), (.c (.int .i64 60))]), .none⟩, ⟨.none, (.store 4 (.t 3) (.t 18)), .none⟩]) (.seq (.reg [⟨(.some 19), (.load 4 .true (.t 3)), .none⟩, ⟨(.some 20), (.mv (.t 1)), .none⟩, ⟨(.some 21), (.call (.c (.fn 65 [] [])) [(.t 19), (.t 20)]), .none⟩, ⟨(.some 7), (.mv (.t 21)), .none⟩]) (.seq (.reg [⟨(.some 22), (.fadr 3 (.t 3)), .none⟩, ⟨(.some 23), (.load 1 .false (.t 22)), .none⟩, ⟨(.some 24), (.len (.t 23)), .none⟩, ⟨(.some 25), (.mkslice 1 8 [(.int .i64 0)] (.t 24)), .none⟩, ⟨(.some 8), (.mv (.t 25)), .none⟩]) (.seq (.reg [⟨(.some 26), (.load 4 .true (.t 3)), .none⟩, ⟨(.some 27), (.mv (.t 7)), .none⟩, ⟨(.some 28), (.call (.c (.fn 63 [] [])) [(.t 26), (.t 27)]), .none⟩, ⟨(.some 29), (.not (.t 28)), .none⟩]) (.seq (.cond (.t 29) (.seq (.reg [⟨(.some 6), (.mv (.c (.bool .false))), .none⟩]) .ret) .skip) (.seq (.reg [⟨(.some 30), (.mv (.t 2)), .none⟩, ⟨(.some 31), (.bin .rem (.t 30) (.c (.int .u8 4))), .none⟩]) (.seq (.block 0 (.seq (.reg [⟨(.some 37), (.bin .eql (.t 31) (.c (.int .u8 0))), .none⟩, ⟨(.some 36), (.mv (.t 37)), .none⟩]) (.cond (.t 36) (.reg [⟨(.some 38), (.mv (.t 7)), .none⟩, ⟨(.some 39), (.fadr 0 (.t 3)), .none⟩, ⟨(.some 40), (.load 1 .false (.t 39)), .none⟩, ⟨(.some 41), (.bin .sub (.t 40) (.c (.int .i64 1))), .none⟩, ⟨(.some 42), (.slc 1 (.t 38) .none (.some (.t 41))), .none⟩, ⟨(.some 7), (.mv (.t 42)), .none⟩]) (.seq (.reg [⟨(.some 44), (.bin .eql (.t 31) (.c (.int .u8 1))), .none⟩, ⟨(.some 43), (.mv (.t 44)), .none⟩]) (.cond (.t 43) (.reg [⟨(.some 45), (.mv (.t 7)), .none⟩, ⟨(.some 46), (.bslice 1 1 [(.bool .false)] [(0, (.c (.bool .false)))]), .none⟩, ⟨(.some 47), (.append 1 1 (.t 45) (.t 46)), .none⟩, ⟨(.some 7), (.mv (.t 47)), .none⟩]) (.seq (.reg [⟨(.some 49), (.bin .eql (.t 31) (.c (.int .u8 2))), .none⟩, ⟨(.some 48), (.mv (.t 49)), .none⟩]) (.cond (.t 48) (.reg [⟨(.some 50), (.mv (.t 7)), .none⟩, ⟨(.some 51), (.fadr 1 (.t 3)), .none⟩, ⟨(.some 52), (.load 1 .false (.t 51)), .none⟩, ⟨(.some 53), (.iadr 1 (.t 50) (.t 52)), .none⟩, ⟨.none, (.store 1 (.t 53) (.c (.bool .false))), .none⟩]) (.reg [⟨(.some 32), (.mv (.t 7)), .none⟩, ⟨(.some 33), (.fadr 2 (.t 3)), .none⟩, ⟨(.some 34), (.load 1 .false (.t 33)), .none⟩, ⟨(.some 35), (.iadr 1 (.t 32) (.t 34)), .none⟩, ⟨.none, (.store 1 (.t 35) (.c (.bool .true))), .none⟩])))))))) (.seq (.reg [⟨(.some 55), (.load 4 .true (.t 3)), .none⟩, ⟨(.some 56), (.mv (.t 7)), .none⟩, ⟨(.some 57), (.call (.c (.fn 35 [] [])) [(.t 55), (.t 56)]), .none⟩, ⟨(.some 54), (.mv (.t 57)), .none⟩, ⟨(.some 58), (.ext (.t 54) 0), .none⟩, ⟨(.some 59), (.ext (.t 54) 1), .none⟩, ⟨(.some 9), (.mv (.t 58)), .none⟩, ⟨(.some 10), (.mv (.t 59)), .none⟩]) (.seq (.reg [⟨(.some 61), (.load 4 .true (.t 3)), .none⟩, ⟨(.some 62), (.mv (.t 8)), .none⟩, ⟨(.some 63), (.mv (.t 7)), .none⟩, ⟨(.some 64), (.call (.c (.fn 66 [] [])) [(.t 61), (.t 62), (.t 63)]), .none⟩, ⟨(.some 60), (.mv (.t 64)), .none⟩, ⟨(.some 65), (.ext (.t 60) 0), .none⟩, ⟨(.some 66), (.ext (.t 60) 1), .none⟩, ⟨(.some 11), (.mv (.t 65)), .none⟩, ⟨(.some 12), (.mv (.t 66)), .none⟩]) (.seq (.reg [⟨(.some 67), (.load 4 .true (.t 3)), .none⟩, ⟨(.some 68), (.mv (.t 7)), .none⟩, ⟨(.some 69), (.call (.c (.fn 63 [] [])) [(.t 67), (.t 68)]), .none⟩, ⟨(.some 70), (.mv (.t 69)), .none⟩, ⟨(.some 71), (.mv (.t 10)), (.some (70, .false))⟩, ⟨(.some 72), (.bin .neq (.t 71) (.c (.int .i64 2))), (.some (70, .false))⟩, ⟨(.some 73), (.pick (.t 70) (.c (.bool .true)) (.t 72)), .none⟩, ⟨(.some 74), (.mv (.t 73)), .none⟩, ⟨(.some 75), (.mv (.t 12)), (.some (74, .false))⟩, ⟨(.some 76), (.bin .neq (.t 75) (.c (.int .i64 2))), (.some (74, .false))⟩, ⟨(.some 77), (.pick (.t 74) (.c (.bool .true)) (.t 76)), .none⟩, ⟨(.some 78), (.mv (.t 77)), .none⟩, ⟨(.some 79), (.load 4 .true (.t 3)), (.some (78, .false))⟩, ⟨(.some 80), (.mv (.t 8)), (.some (78, .false))⟩, ⟨(.some 81), (.mv (.t 7)), (.some (78, .false))⟩, ⟨(.some 82), (.call (.c (.fn 67 [] [])) [(.t 79), (.t 80), (.t 81)]), (.some (78, .false))⟩, ⟨(.some 83), (.pick (.t 78) (.c (.bool .true)) (.t 82)), .none⟩]) (.seq (.cond (.t 83) (.seq (.reg [⟨(.some 6), (.mv (.c (.bool .false))), .none⟩]) .ret) .skip) (.seq (.dreg 1 [(.plain, ⟨(.some 85), (.load 4 .true (.t 3)), .none⟩), (.plain, ⟨(.some 86), (.mv (.t 8)), .none⟩), ((.hole 0), ⟨(.some 87), (.bslice 1 1 [(.int .i64 0)] [(0, (.c (.int .i64 0)))]), .none⟩), (.plain, ⟨(.some 88), (.append 1 8 (.t 86) (.t 87)), .none⟩), (.plain, ⟨(.some 89), (.call (.c (.fn 33 [] [])) [(.t 85), (.t 88)]), .none⟩), (.plain, ⟨(.some 84), (.mv (.t 89)), .none⟩), (.plain, ⟨(.some 90), (.ext (.t 84) 0), .none⟩), (.plain, ⟨(.some 91), (.ext (.t 84) 1), .none⟩), (.plain, ⟨(.some 13), (.mv (.t 90)), .none⟩), (.plain, ⟨(.some 14), (.mv (.t 91)), .none⟩)] [(.nh (.t 3) 0), (.ne (.t 3) (.t 86))]) (.seq (.dreg 1 [(.plain, ⟨(.some 93), (.load 4 .true (.t 3)), .none⟩), (.plain, ⟨(.some 94), (.mv (.t 8)), .none⟩), ((.hole 0), ⟨(.some 95), (.bslice 1 1 [(.int .i64 0)] [(0, (.c (.int .i64 0)))]), .none⟩), (.plain, ⟨(.some 96), (.append 1 8 (.t 94) (.t 95)), .none⟩), (.plain, ⟨(.some 97), (.call (.c (.fn 43 [] [])) [(.t 93), (.t 96)]), .none⟩), (.plain, ⟨(.some 92), (.mv (.t 97)), .none⟩), (.plain, ⟨(.some 98), (.ext (.t 92) 0), .none⟩), (.plain, ⟨(.some 99), (.ext (.t 92) 1), .none⟩), (.plain, ⟨(.some 15), (.mv (.t 98)), .none⟩), (.plain, ⟨(.some 16), (.mv (.t 99)), .none⟩)] [(.nh (.t 3) 0), (.ne (.t 3) (.t 94))]) (.seq (.reg [⟨(.some 100), (.mv (.t 14)), .none⟩, ⟨(.some 101), (.bin .eql (.t 100) (.c (.int .i64 20))), .none⟩, ⟨(.some 102), (.mv (.t 101)), .none⟩, ⟨(.some 103), (.mv (.t 16)), (.some (102, .true))⟩, ⟨(.some 104), (.bin .eql (.t 103) (.c (.int .i64 20))), (.some (102, .true))⟩, ⟨(.some 105), (.pick (.t 102) (.t 104) (.c (.bool .false))), .none⟩, ⟨(.some 106), (.mv (.t 105)), .none⟩, ⟨(.some 107), (.call (.c (.fn 64 [] [])) []), (.some (106, .true))⟩, ⟨(.some 108), (.pick (.t 106) (.t 107) (.c (.bool .false))), .none⟩, ⟨(.some 6), (.mv (.t 108)), .none⟩]) .ret)))))))))))))))
theorem nc20 : nc Try.prog 20 = some (3, [(.t 6)], gc20) := by kernel_rfl
def gc21 : MC := (.seq (.reg [⟨(.some 3), (.box 4 (.t 0)), .none⟩, ⟨(.some 6), (.mv (.c (.bool .false))), .none⟩]) (.seq (.reg [⟨(.some 17), (.load 4 .true (.t 3)), .none⟩, ⟨(.some 18), (.call (.c (.fn 31 [] [])) [(.t 17), (.c (.int .i64 30)), (.c (.int .i64 60))]), .none⟩, ⟨.none, (.store 4 (.t 3) (.t 18)), .none⟩]) (.seq (.dreg 0 [(.plain, ⟨(.some 19), (.load 4 .true (.t 3)), .none⟩), (.plain, ⟨(.some 20), (.mv (.t 1)), .none⟩), ((.pcall []), ⟨(.some 21), (.call (.c (.fn 65 [] [])) [(.t 19), (.t 20)]), .none⟩), (.plain, ⟨(.some 22), (.load 4 .true (.t 3)), .none⟩), (.plain, ⟨(.some 23), (.mv (.t 2)), .none⟩), (.plain, ⟨(.some 24), (.call (.c (.fn 65 [] [])) [(.t 22), (.t 23)]), .none⟩), (.plain, ⟨(.some 7), (.mv (.t 21)), .none⟩), (.plain, ⟨(.some 8), (.mv (.t 24)), .none⟩)] [(.lt (.t 3))]) (.seq (.reg [⟨(.some 26), (.load 4 .true (.t 3)), .none⟩, ⟨(.some 27), (.mv (.t 7)), .none⟩, ⟨(.some 28), (.call (.c (.fn 35 [] [])) [(.t 26), (.t 27)]), .none⟩, ⟨(.some 25), (.mv (.t 28)), .none⟩, ⟨(.some 29), (.ext (.t 25) 0), .none⟩, ⟨(.some 30), (.ext (.t 25) 1), .none⟩, ⟨(.some 9), (.mv (.t 29)), .none⟩, ⟨(.some 10), (.mv (.t 30)), .none⟩]) (.seq (.reg [⟨(.some 32), (.load 4 .true (.t 3)), .none⟩, ⟨(.some 33), (.mv (.t 8)), .none⟩, ⟨(.some 34), (.call (.c (.fn 35 [] [])) [(.t 32), (.t 33)]), .none⟩, ⟨(.some 31), (.mv (.t 34)), .none⟩, ⟨(.some 35), (.ext (.t 31) 0), .none⟩, ⟨(.some 36), (.ext (.t 31) 1), .none⟩, ⟨(.some 11), (.mv (.t 35)), .none⟩, ⟨(.some 12), (.mv (.t 36)), .none⟩]) (.seq (.dreg 0 [(.plain, ⟨(.some 38), (.load 4 .true (.t 3)), .none⟩), (.plain, ⟨(.some 39), (.mv (.t 7)), .none⟩), (.plain, ⟨(.some 40), (.mv (.t 8)), .none⟩), ((.pcall []), ⟨(.some 41), (.call (.c (.fn 68 [] [])) [(.t 39), (.t 40)]), .none⟩), (.plain, ⟨(.some 42), (.call (.c (.fn 35 [] [])) [(.t 38), (.t 41)]), .none⟩), (.plain, ⟨(.some 37), (.mv (.t 42)), .none⟩), (.plain, ⟨(.some 43), (.ext (.t 37) 0), .none⟩), (.plain, ⟨(.some 44), (.ext (.t 37) 1), .none⟩), (.plain, ⟨(.some 13), (.mv (.t 43)), .none⟩), (.plain, ⟨(.some 14), (.mv (.t 44)), .none⟩)] []) (.seq (.dreg 0 [(.plain, ⟨(.some 46), (.load 4 .true (.t 3)), .none⟩), (.plain, ⟨(.some 47), (.mv (.t 7)), .none⟩), (.plain, ⟨(.some 48), (.mv (.t 8)), .none⟩), ((.pcall []), ⟨(.some 49), (.call (.c (.fn 69 [] [])) [(.t 47), (.t 48)]), .none⟩), (.plain, ⟨(.some 50), (.call (.c (.fn 35 [] [])) [(.t 46), (.t 49)]), .none⟩), (.plain, ⟨(.some 45), (.mv (.t 50)), .none⟩), (.plain, ⟨(.some 51), (.ext (.t 45) 0), .none⟩), (.plain, ⟨(.some 52), (.ext (.t 45) 1), .none⟩), (.plain, ⟨(.some 15), (.mv (.t 51)), .none⟩), (.plain, ⟨(.some 16), (.mv (.t 52)), .none⟩)] []) (.seq (.reg [⟨(.some 53), (.mv (.t 10)), .none⟩, ⟨(.some 54), (.bin .neq (.t 53) (.c (.int .i64 0))), .none⟩, ⟨(.some 55), (.mv (.t 54)), .none⟩, ⟨(.some 56), (.mv (.t 12)), (.some (55, .false))⟩, ⟨(.some 57), (.bin .neq (.t 56) (.c (.int .i64 0))), (.some (55, .false))⟩, ⟨(.some 58), (.pick (.t 55) (.c (.bool .true)) (.t 57)), .none⟩, ⟨(.some 59), (.mv (.t 58)), .none⟩, ⟨(.some 60), (.mv (.t 14)), (.some (59, .false))⟩, ⟨(.some 61), (.bin .neq (.t 60) (.c (.int .i64 0))), (.some (59, .false))⟩, ⟨(.some 62), (.pick (.t 59) (.c (.bool .true)) (.t 61)), .none⟩, ⟨(.some 63), (.mv (.t 62)), .none⟩, ⟨(.some 64), (.mv (.t 16)), (.some (63, .false))⟩, ⟨(.some 65), (.bin .neq (.t 64) (.c (.int .i64 0))), (.some (63, .false))⟩, ⟨(.some 66), (.pick (.t 63) (.c (.bool .true)) (.t 65)), .none⟩, ⟨(.some 67), (.mv (.t 66)), .none⟩, ⟨(.some 68), (.mv (.t 13)), (.some (67, .false))⟩, ⟨(.some 69), (.mv (.t 15)), (.some (67, .false))⟩, ⟨(.some 70), (.bin .add (.t 68) (.t 69)), (.some (67, .false))⟩, ⟨(.some 71), (.mv (.t 9)), (.some (67, .false))⟩, ⟨(.some 72), (.mv (.t 11)), (.some (67, .false))⟩, ⟨(.some 73), (.bin .add (.t 71) (.t 72)), (.some (67, .false))⟩, ⟨(.some 74), (.bin .gtr (.t 70) (.t 73)), (.some (67, .false))⟩, ⟨(.some 75), (.pick (.t 67) (.c (.bool .true)) (.t 74)), .none⟩, ⟨(.some 76), (.mv (.t 75)), .none⟩, ⟨(.some 77), (.mv (.t 13)), (.some (76, .false))⟩, ⟨(.some 78), (.bin .lss (.t 77) (.c (.int .i64 0))), (.some (76, .false))⟩, ⟨(.some 79), (.pick (.t 76) (.c (.bool .true)) (.t 78)), .none⟩, ⟨(.some 80), (.mv (.t 79)), .none⟩, ⟨(.some 81), (.mv (.t 15)), (.some (80, .false))⟩, ⟨(.some 82), (.bin .lss (.t 81) (.c (.int .i64 0))), (.some (80, .false))⟩, ⟨(.some 83), (.pick (.t 80) (.c (.bool .true)) (.t 82)), .none⟩]) (.seq (.cond (.t 83) (.seq (.reg [⟨(.some 6), (.mv (.c (.bool .false))), .none⟩]) .ret) .skip) (.seq (.reg [⟨(.some 84), (.mv (.t 7)), .none⟩, ⟨(.some 85), (.mv (.t 7)), .none⟩, ⟨(.some 86), (.call (.c (.fn 68 [] [])) [(.t 84), (.t 85)]), .none⟩, ⟨(.some 87), (.mv (.t 7)), .none⟩, ⟨(.some 88), (.call (.c (.fn 70 [] [])) [(.t 86), (.t 87)]), .none⟩, ⟨(.some 89), (.mv (.t 88)), .none⟩, ⟨(.some 90), (.mv (.t 7)), (.some (89, .true))⟩, ⟨(.some 91), (.mv (.t 8)), (.some (89, .true))⟩, ⟨(.some 92), (.call (.c (.fn 69 [] [])) [(.t 90), (.t 91)]), (.some (89, .true))⟩, ⟨(.some 93), (.mv (.t 8)), (.some (89, .true))⟩, ⟨(.some 94), (.mv (.t 7)), (.some (89, .true))⟩, ⟨(.some 95), (.call (.c (.fn 69 [] [])) [(.t 93), (.t 94)]), (.some (89, .true))⟩, ⟨(.some 96), (.call (.c (.fn 70 [] [])) [(.t 92), (.t 95)]), (.some (89, .true))⟩, ⟨(.some 97), (.pick (.t 89) (.t 96) (.c (.bool .false))), .none⟩, ⟨(.some 98), (.mv (.t 97)), .none⟩, ⟨(.some 99), (.call (.c (.fn 64 [] [])) []), (.some (98, .true))⟩, ⟨(.some 100), (.pick (.t 98) (.t 99) (.c (.bool .false))), .none⟩, ⟨(.some 6), (.mv (.t 100)), .none⟩]) .ret))))))))))
theorem nc21 : nc Try.prog 21 = some (3, [(.t 6)], gc21) := by kernel_rfl
def gc22 : MC := (.seq (.reg [⟨(.some 3), (.box 4 (.t 0)), .none⟩, ⟨(.some 6), (.mv (.c (.bool .false))), .none⟩]) (.seq (.reg [⟨(.some 20), (.load 4 .true (.t 3)), .none⟩, ⟨(.some 21), (.call (.c (.fn 31 [] [])) [(.t 20), (.c (.int .i64 30)), (.c (.int .i64 60))]), .none⟩, ⟨.none, (.store 4 (.t 3) (.t 21)), .none⟩]) (.seq (.dreg 0 [(.plain, ⟨(.some 22), (.load 4 .true (.t 3)), .none⟩), (.plain, ⟨(.some 23), (.mv (.t 1)), .none⟩), ((.pcall []), ⟨(.some 24), (.call (.c (.fn 45 [] [])) [(.t 22), (.t 23)]), .none⟩), (.plain, ⟨(.some 25), (.load 4 .true (.t 3)), .none⟩), (.plain, ⟨(.some 26), (.mv (.t 2)), .none⟩), (.plain, ⟨(.some 27), (.call (.c (.fn 65 [] [])) [(.t 25), (.t 26)]), .none⟩), (.plain, ⟨(.some 7), (.mv (.t 24)), .none⟩), (.plain, ⟨(.some 8), (.mv (.t 27)), .none⟩)] [(.lt (.t 3))]) (.seq (.reg [⟨(.some 29), (.load 4 .true (.t 3)), .none⟩, ⟨(.some 30), (.mv (.t 7)), .none⟩, ⟨(.some 31), (.mv (.t 8)), .none⟩, ⟨(.some 32), (.call (.c (.fn 66 [] [])) [(.t 29), (.t 30), (.t 31)]), .none⟩, ⟨(.some 28), (.mv (.t 32)), .none⟩, ⟨(.some 33), (.ext (.t 28) 0), .none⟩, ⟨(.some 34), (.ext (.t 28) 1), .none⟩, ⟨(.some 9), (.mv (.t 33)), .none⟩, ⟨(.some 10), (.mv (.t 34)), .none⟩]) (.seq (.reg [⟨(.some 36), (.load 4 .true (.t 3)), .none⟩, ⟨(.some 37), (.mv (.t 8)), .none⟩, ⟨(.some 38), (.call (.c (.fn 35 [] [])) [(.t 36), (.t 37)]), .none⟩, ⟨(.some 35), (.mv (.t 38)), .none⟩, ⟨(.some 39), (.ext (.t 35) 0), .none⟩, ⟨(.some 40), (.ext (.t 35) 1), .none⟩, ⟨(.some 11), (.mv (.t 39)), .none⟩, ⟨(.some 12), (.mv (.t 40)), .none⟩]) (.seq (.reg [⟨(.some 42), (.load 4 .true (.t 3)), .none⟩, ⟨(.some 43), (.mv (.t 7)), .none⟩, ⟨(.some 44), (.call (.c (.fn 54 [] [])) [(.t 42), (.t 43)]), .none⟩, ⟨(.some 41), (.mv (.t 44)), .none⟩, ⟨(.some 45), (.ext (.t 41) 0), .none⟩, ⟨(.some 46), (.ext (.t 41) 1), .none⟩, ⟨(.some 13), (.mv (.t 45)), .none⟩, ⟨(.some 14), (.mv (.t 46)), .none⟩]) (.seq (.reg [⟨(.some 47), (.mv (.t 10)), .none⟩, ⟨(.some 48), (.bin .neq (.t 47) (.c (.int .i64 0))), .none⟩, ⟨(.some 49), (.mv (.t 48)), .none⟩, ⟨(.some 50), (.mv (.t 12)), (.some (49, .false))⟩, ⟨(.some 51), (.bin .neq (.t 50) (.c (.int .i64 0))), (.some (49, .false))⟩, ⟨(.some 52), (.pick (.t 49) (.c (.bool .true)) (.t 51)), .none⟩, ⟨(.some 53), (.mv (.t 52)), .none⟩, ⟨(.some 54), (.mv (.t 14)), (.some (53, .false))⟩, ⟨(.some 55), (.bin .neq (.t 54) (.c (.int .i64 0))), (.some (53, .false))⟩, ⟨(.some 56), (.pick (.t 53) (.c (.bool .true)) (.t 55)), .none⟩, ⟨(.some 57), (.mv (.t 56)), .none⟩, ⟨(.some 58), (.load 4 .true (.t 3)), (.some (57, .false))⟩, ⟨(.some 59), (.mv (.t 8)), (.some (57, .false))⟩, ⟨(.some 60), (.call (.c (.fn 63 [] [])) [(.t 58), (.t 59)]), (.some (57, .false))⟩, ⟨(.some 61), (.not (.t 60)), (.some (57, .false))⟩, ⟨(.some 62), (.pick (.t 57) (.c (.bool .true)) (.t 61)), .none⟩, ⟨(.some 63), (.mv (.t 62)), .none⟩, ⟨(.some 64), (.mv (.t 13)), (.some (63, .false))⟩, ⟨(.some 65), (.len (.t 64)), (.some (63, .false))⟩, ⟨(.some 66), (.fadr 0 (.t 3)), (.some (63, .false))⟩, ⟨(.some 67), (.load 1 .false (.t 66)), (.some (63, .false))⟩, ⟨(.some 68), (.bin .neq (.t 65) (.t 67)), (.some (63, .false))⟩, ⟨(.some 69), (.pick (.t 63) (.c (.bool .true)) (.t 68)), .none⟩]) (.seq (.cond (.t 69) (.seq (.reg [⟨(.some 6), (.mv (.c (.bool .false))), .none⟩]) .ret) .skip) (.seq (.reg [⟨(.some 15), (.mv (.c (.int .i64 0))), .none⟩]) (.seq (.reg [⟨(.some 70), (.mv (.t 8)), .none⟩, ⟨(.some 71), (.len (.t 70)), .none⟩, ⟨(.some 72), (.mv (.c (.int .i64 0))), .none⟩]) (.seq (.block 0 (.loop (.seq (.reg [⟨(.some 73), (.bin .lss (.t 72) (.t 71)), .none⟩]) (.seq (.cond (.t 73) .skip (.exit 0)) (.seq (.block 1 (.seq (.reg [⟨(.some 74), (.mv (.t 72)), .none⟩, ⟨(.some 75), (.iadr 1 (.t 70) (.t 72)), .none⟩, ⟨(.some 76), (.load 1 .false (.t 75)), .none⟩, ⟨(.some 16), (.mv (.t 74)), .none⟩, ⟨(.some 17), (.mv (.t 76)), .none⟩]) (.seq (.reg [⟨(.some 77), (.mv (.t 17)), .none⟩, ⟨(.some 78), (.not (.t 77)), .none⟩]) (.cond (.t 78) (.reg [⟨(.some 79), (.mv (.t 15)), .none⟩, ⟨(.some 80), (.mv (.t 13)), .none⟩, ⟨(.some 81), (.mv (.t 16)), .none⟩, ⟨(.some 82), (.iadr 1 (.t 80) (.t 81)), .none⟩, ⟨(.some 83), (.load 1 .false (.t 82)), .none⟩, ⟨(.some 84), (.bin .add (.t 79) (.t 83)), .none⟩, ⟨(.some 15), (.mv (.t 84)), .none⟩]) .skip)))) (.reg [⟨(.some 85), (.bin .add (.t 72) (.c (.int .i64 1))), .none⟩, ⟨(.some 72), (.mv (.t 85)), .none⟩])))))) (.seq (.reg [⟨(.some 86), (.mv (.t 9)), .none⟩, ⟨(.some 87), (.mv (.t 15)), .none⟩, ⟨(.some 88), (.bin .neq (.t 86) (.t 87)), .none⟩, ⟨(.some 89), (.mv (.t 88)), .none⟩, ⟨(.some 90), (.mv (.t 9)), (.some (89, .false))⟩, ⟨(.some 91), (.mv (.t 11)), (.some (89, .false))⟩, ⟨(.some 92), (.bin .gtr (.t 90) (.t 91)), (.some (89, .false))⟩, ⟨(.some 93), (.pick (.t 89) (.c (.bool .true)) (.t 92)), .none⟩, ⟨(.some 94), (.mv (.t 93)), .none⟩, ⟨(.some 95), (.mv (.t 9)), (.some (94, .false))⟩, ⟨(.some 96), (.mv (.t 11)), (.some (94, .false))⟩, ⟨(.some 97), (.bin .eql (.t 95) (.t 96)), (.some (94, .false))⟩, ⟨(.some 98), (.load 4 .true (.t 3)), (.some (94, .false))⟩, ⟨(.some 99), (.mv (.t 7)), (.some (94, .false))⟩, ⟨(.some 100), (.mv (.t 8)), (.some (94, .false))⟩, ⟨(.some 101), (.call (.c (.fn 67 [] [])) [(.t 98), (.t 99), (.t 100)]), (.some (94, .false))⟩, ⟨(.some 102), (.eq .true .bool (.t 97) (.t 101)), (.some (94, .false))⟩, ⟨(.some 103), (.pick (.t 94) (.c (.bool .true)) (.t 102)), .none⟩]) (.seq (.cond (.t 103) (.seq (.reg [⟨(.some 6), (.mv (.c (.bool .false))), .none⟩]) .ret) .skip) (.seq (.reg [⟨(.some 105), (.load 4 .true (.t 3)), .none⟩, ⟨(.some 106), (.mv (.t 7)), .none⟩, ⟨(.some 107), (.call (.c (.fn 38 [] [])) [(.t 105), (.t 106)]), .none⟩, ⟨(.some 104), (.mv (.t 107)), .none⟩, ⟨(.some 108), (.ext (.t 104) 0), .none⟩, ⟨(.some 109), (.ext (.t 104) 1), .none⟩, ⟨(.some 18), (.mv (.t 108)), .none⟩, ⟨(.some 19), (.mv (.t 109)), .none⟩]) (.seq (.reg [⟨(.some 110), (.mv (.t 19)), .none⟩, ⟨(.some 111), (.bin .eql (.t 110) (.c (.int .i64 0))), .none⟩, ⟨(.some 112), (.mv (.t 111)), .none⟩, ⟨(.some 113), (.mv (.t 18)), (.some (112, .true))⟩, ⟨(.some 114), (.mv (.t 9)), (.some (112, .true))⟩, ⟨(.some 115), (.bin .neq (.t 113) (.t 114)), (.some (112, .true))⟩, ⟨(.some 116), (.pick (.t 112) (.t 115) (.c (.bool .false))), .none⟩]) (.seq (.cond (.t 116) (.seq (.reg [⟨(.some 6), (.mv (.c (.bool .false))), .none⟩]) .ret) .skip) (.seq (.reg [⟨(.some 117), (.call (.c (.fn 64 [] [])) []), .none⟩, ⟨(.some 6), (.mv (.t 117)), .none⟩]) .ret)))))))))))))))))
theorem nc22 : nc Try.prog 22 = some (3, [(.t 6)], gc22) := by kernel_rfl
def gc64 : MC := (.seq (.reg [⟨(.some 0), (.mv (.c (.bool .false))), .none⟩]) (.seq (.reg [⟨(.some 9), (.call (.c (.fn 74 [] [])) []), .none⟩, ⟨(.some 10), (.bslice 5 1 [(.int .i64 0), (.int .i64 0), (.int .i64 0), (.int .i64 0), (.int .i64 0)] [(0, (.c (.int .i64 5))), (1, (.c (.int .i64 4))), (2, (.c (.int .i64 3))), (3, (.c (.int .i64 6))), (4, (.c (.int .i64 2)))]), .none⟩, ⟨(.some 1), (.alloc [(.int .i64 0), (.int .i64 0), (.int .i64 0), .nils]), .none⟩, ⟨.none, (.store 4 (.t 1) (.t 9)), .none⟩, ⟨(.some 2), (.mv (.t 10)), .none⟩]) (.seq (.reg [⟨(.some 12), (.load 4 .true (.t 1)), .none⟩, ⟨(.some 13), (.mv (.t 2)), .none⟩, ⟨(.some 14), (.bslice 4 1 [(.bool .false), (.bool .false), (.bool .false), (.bool .false)] [(0, (.c (.bool .true))), (1, (.c (.bool .true))), (2, (.c (.bool .false))), (3, (.c (.bool .false)))]), .none⟩, ⟨(.some 15), (.call (.c (.fn 66 [] [])) [(.t 12), (.t 13), (.t 14)]), .none⟩, ⟨(.some 11), (.mv (.t 15)), .none⟩, ⟨(.some 16), (.ext (.t 11) 0), .none⟩, ⟨(.some 17), (.ext (.t 11) 1), .none⟩, ⟨(.some 3), (.mv (.t 16)), .none⟩, ⟨(.some 4), (.mv (.t 17)), .none⟩]) (.seq (.reg [⟨(.some 19), (.load 4 .true (.t 1)), .none⟩, ⟨(.some 20), (.mv (.t 2)), .none⟩, ⟨(.some 21), (.call (.c (.fn 33 [] [])) [(.t 19), (.t 20)]), .none⟩, ⟨(.some 18), (.mv (.t 21)), .none⟩, ⟨(.some 22), (.ext (.t 18) 0), .none⟩, ⟨(.some 23), (.ext (.t 18) 1), .none⟩, ⟨(.some 5), (.mv (.t 22)), .none⟩, ⟨(.some 6), (.mv (.t 23)), .none⟩]) (.seq (.reg [⟨(.some 25), (.load 4 .true (.t 1)), .none⟩, ⟨(.some 26), (.mv (.t 2)), .none⟩, ⟨(.some 27), (.call (.c (.fn 43 [] [])) [(.t 25), (.t 26)]), .none⟩, ⟨(.some 24), (.mv (.t 27)), .none⟩, ⟨(.some 28), (.ext (.t 24) 0), .none⟩, ⟨(.some 29), (.ext (.t 24) 1), .none⟩, ⟨(.some 7), (.mv (.t 28)), .none⟩, ⟨(.some 8), (.mv (.t 29)), .none⟩]) (.seq (.reg [⟨(.some 30), (.bslice 4 1 [(.bool .false), (.bool .false), (.bool .false), (.bool .false)] [(0, (.c (.bool .true))), (1, (.c (.bool .false))), (2, (.c (.bool .false))), (3, (.c (.bool .false)))]), .none⟩, ⟨(.some 31), (.call (.c (.fn 101 [] [])) [(.c (.int .i64 9)), (.t 30)]), .none⟩, ⟨(.some 32), (.mv (.t 31)), .none⟩, ⟨(.some 33), (.bslice 4 1 [(.bool .false), (.bool .false), (.bool .false), (.bool .false)] [(0, (.c (.bool .true))), (1, (.c (.bool .true))), (2, (.c (.bool .false))), (3, (.c (.bool .false)))]), (.some (32, .true))⟩, ⟨(.some 34), (.call (.c (.fn 101 [] [])) [(.c (.int .i64 9)), (.t 33)]), (.some (32, .true))⟩, ⟨(.some 35), (.pick (.t 32) (.t 34) (.c (.bool .false))), .none⟩, ⟨(.some 36), (.mv (.t 35)), .none⟩, ⟨(.some 37), (.bslice 4 1 [(.bool .false), (.bool .false), (.bool .false), (.bool .false)] [(0, (.c (.bool .true))), (1, (.c (.bool .false))), (2, (.c (.bool .true))), (3, (.c (.bool .false)))]), (.some (36, .true))⟩, ⟨(.some 38), (.call (.c (.fn 101 [] [])) [(.c (.int .i64 11)), (.t 37)]), (.some (36, .true))⟩, ⟨(.some 39), (.pick (.t 36) (.t 38) (.c (.bool .false))), .none⟩, ⟨(.some 40), (.mv (.t 39)), .none⟩, ⟨(.some 41), (.mv (.t 3)), (.some (40, .true))⟩, ⟨(.some 42), (.bin .eql (.t 41) (.c (.int .i64 9))), (.some (40, .true))⟩, ⟨(.some 43), (.pick (.t 40) (.t 42) (.c (.bool .false))), .none⟩, ⟨(.some 44), (.mv (.t 43)), .none⟩, ⟨(.some 45), (.mv (.t 4)), (.some (44, .true))⟩, ⟨(.some 46), (.bin .eql (.t 45) (.c (.int .i64 0))), (.some (44, .true))⟩, ⟨(.some 47), (.pick (.t 44) (.t 46) (.c (.bool .false))), .none⟩, ⟨(.some 48), (.mv (.t 47)), .none⟩, ⟨(.some 49), (.load 4 .true (.t 1)), (.some (48, .true))⟩, ⟨(.some 50), (.mv (.t 2)), (.some (48, .true))⟩, ⟨(.some 51), (.bslice 4 1 [(.bool .false), (.bool .false), (.bool .false), (.bool .false)] [(0, (.c (.bool .true))), (1, (.c (.bool .true))), (2, (.c (.bool .false))), (3, (.c (.bool .false)))]), (.some (48, .true))⟩, ⟨(.some 52), (.call (.c (.fn 67 [] [])) [(.t 49), (.t 50), (.t 51)]), (.some (48, .true))⟩, ⟨(.some 53), (.pick (.t 48) (.t 52) (.c (.bool .false))), .none⟩, ⟨(.some 54), (.mv (.t 53)), .none⟩, ⟨(.some 55), (.mv (.t 6)), (.some (54, .true))⟩, ⟨(.some 56), (.bin .eql (.t 55) (.c (.int .i64 0))), (.some (54, .true))⟩, ⟨(.some 57), (.pick (.t 54) (.t 56) (.c (.bool .false))), .none⟩, ⟨(.some 58), (.mv (.t 57)), .none⟩, ⟨(.some 59), (.mv (.t 8)), (.some (58, .true))⟩, ⟨(.some 60), (.bin .eql (.t 59) (.c (.int .i64 0))), (.some (58, .true))⟩, ⟨(.some 61), (.pick (.t 58) (.t 60) (.c (.bool .false))), .none⟩, ⟨(.some 62), (.mv (.t 61)), .none⟩, ⟨(.some 63), (.mv (.t 5)), (.some (62, .true))⟩, ⟨(.some 64), (.bslice 4 1 [(.bool .false), (.bool .false), (.bool .false), (.bool .false)] [(0, (.c (.bool .true))), (1, (.c (.bool .false))), (2, (.c (.bool .false))), (3, (.c (.bool .false)))]), (.some (62, .true))⟩, ⟨(.some 65), (.call (.c (.fn 70 [] [])) [(.t 63), (.t 64)]), (.some (62, .true))⟩, ⟨(.some 66), (.pick (.t 62) (.t 65) (.c (.bool .false))), .none⟩, ⟨(.some 67), (.mv (.t 66)), .none⟩, ⟨(.some 68), (.mv (.t 7)), (.some (67, .true))⟩, ⟨(.some 69), (.bslice 4 1 [(.bool .false), (.bool .false), (.bool .false), (.bool .false)] [(0, (.c (.bool .true))), (1, (.c (.bool .true))), (2, (.c (.bool .true))), (3, (.c (.bool .false)))]), (.some (67, .true))⟩, ⟨(.some 70), (.call (.c (.fn 70 [] [])) [(.t 68), (.t 69)]), (.some (67, .true))⟩, ⟨(.some 71), (.pick (.t 67) (.t 70) (.c (.bool .false))), .none⟩, ⟨(.some 0), (.mv (.t 71)), .none⟩]) .ret))))))
theorem nc64 : nc Try.prog 64 = some (0, [(.t 0)], gc64) := by kernel_rfl
def gc68 : MC := (.seq (.reg [⟨(.some 4), (.mv (.c .nils)), .none⟩]) (.seq (.reg [⟨(.some 5), (.mv (.t 0)), .none⟩, ⟨(.some 6), (.mv (.t 1)), .none⟩, ⟨(.some 7), (.call (.c (.fn 102 [] [])) [(.t 5), (.t 6), (.c (.fn 103 [] []))]), .none⟩, ⟨(.some 4), (.mv (.t 7)), .none⟩]) .ret))
theorem nc68 : nc Try.prog 68 = some (2, [(.t 4)], gc68) := by kernel_rfl
def gc69 : MC := (.seq (.reg [⟨(.some 4), (.mv (.c .nils)), .none⟩]) (.seq (.reg [⟨(.some 5), (.mv (.t 0)), .none⟩, ⟨(.some 6), (.mv (.t 1)), .none⟩, ⟨(.some 7), (.call (.c (.fn 102 [] [])) [(.t 5), (.t 6), (.c (.fn 104 [] []))]), .none⟩, ⟨(.some 4), (.mv (.t 7)), .none⟩]) .ret))
theorem nc69 : nc Try.prog 69 = some (2, [(.t 4)], gc69) := by kernel_rfl
def gc74 : MC := (.seq (.reg [⟨(.some 0), (.alloc [(.int .i64 0), (.int .i64 0), (.int .i64 0), .nils]), .none⟩]) (.seq (.reg [⟨(.some 1), (.build [(.int .i64 0), (.int .i64 0), (.int .i64 0)] [(1, (1, (.c (.int .i64 1)))), (2, (1, (.c (.int .i64 5))))]), .none⟩, ⟨(.some 2), (.build [(.int .i64 0), (.int .i64 0), (.int .i64 0)] [(1, (1, (.c (.int .i64 2)))), (2, (1, (.c (.int .i64 4))))]), .none⟩, ⟨(.some 3), (.build [(.int .i64 0), (.int .i64 0), (.int .i64 0)] [(0, (1, (.c (.int .i64 1)))), (1, (1, (.c (.int .i64 3)))), (2, (1, (.c (.int .i64 3))))]), .none⟩, ⟨(.some 4), (.build [(.int .i64 0), (.int .i64 0), (.int .i64 0)] [(0, (1, (.c (.int .i64 2)))), (1, (1, (.c (.int .i64 3)))), (2, (1, (.c (.int .i64 6))))]), .none⟩, ⟨(.some 5), (.build [(.int .i64 0), (.int .i64 0), (.int .i64 0)] [(0, (1, (.c (.int .i64 1)))), (1, (1, (.c (.int .i64 2)))), (2, (1, (.c (.int .i64 2))))]), .none⟩, ⟨(.some 6), (.bslice 5 3 [(.int .i64 0), (.int .i64 0), (.int .i64 0), (.int .i64 0), (.int .i64 0), (.int .i64 0), (.int .i64 0), (.int .i64 0), (.int .i64 0), (.int .i64 0), (.int .i64 0), (.int .i64 0), (.int .i64 0), (.int .i64 0), (.int .i64 0)] [(0, (.t 1)), (3, (.t 2)), (6, (.t 3)), (9, (.t 4)), (12, (.t 5))]), .none⟩, ⟨(.some 7), (.build [(.int .i64 0), (.int .i64 0), (.int .i64 0), .nils] [(0, (1, (.c (.int .i64 4)))), (2, (1, (.c (.int .i64 3)))), (3, (1, (.t 6)))]), .none⟩, ⟨.none, (.store 4 (.t 0) (.t 7)), .none⟩]) .ret))
theorem nc74 : nc Try.prog 74 = some (0, [(.c 0 4 .true)], gc74) := by kernel_rfl
def gc101 : MC := (.seq (.reg [⟨(.some 4), (.mv (.c (.bool .false))), .none⟩]) (.seq (.reg [⟨(.some 8), (.call (.c (.fn 74 [] [])) []), .none⟩, ⟨(.some 9), (.mv (.t 1)), .none⟩, ⟨(.some 10), (.call (.c (.fn 35 [] [])) [(.t 8), (.t 9)]), .none⟩, ⟨(.some 7), (.mv (.t 10)), .none⟩, ⟨(.some 11), (.ext (.t 7) 0), .none⟩, ⟨(.some 12), (.ext (.t 7) 1), .none⟩, ⟨(.some 5), (.mv (.t 11)), .none⟩, ⟨(.some 6), (.mv (.t 12)), .none⟩]) (.seq (.reg [⟨(.some 13), (.mv (.t 5)), .none⟩, ⟨(.some 14), (.mv (.t 0)), .none⟩, ⟨(.some 15), (.bin .eql (.t 13) (.t 14)), .none⟩, ⟨(.some 16), (.mv (.t 15)), .none⟩, ⟨(.some 17), (.mv (.t 6)), (.some (16, .true))⟩, ⟨(.some 18), (.bin .eql (.t 17) (.c (.int .i64 0))), (.some (16, .true))⟩, ⟨(.some 19), (.pick (.t 16) (.t 18) (.c (.bool .false))), .none⟩, ⟨(.some 4), (.mv (.t 19)), .none⟩]) .ret)))
theorem nc101 : nc Try.prog 101 = some (2, [(.t 4)], gc101) := by kernel_rfl
def gc102 : MC := (.seq (.reg [⟨(.some 6), (.mv (.c .nils)), .none⟩]) (.seq (.reg [⟨(.some 9), (.mv (.t 0)), .none⟩, ⟨(.some 10), (.len (.t 9)), .none⟩, ⟨(.some 11), (.mv (.t 1)), .none⟩, ⟨(.some 12), (.len (.t 11)), .none⟩, ⟨(.some 13), (.mx (.t 10) (.t 12)), .none⟩, ⟨(.some 14), (.mkslice 1 1 [(.bool .false)] (.t 13)), .none⟩, ⟨(.some 7), (.mv (.t 14)), .none⟩]) (.seq (.reg [⟨(.some 15), (.mv (.t 7)), .none⟩, ⟨(.some 16), (.len (.t 15)), .none⟩, ⟨(.some 17), (.mv (.c (.int .i64 0))), .none⟩]) (.seq (.block 0 (.loop (.seq (.reg [⟨(.some 18), (.bin .lss (.t 17) (.t 16)), .none⟩]) (.seq (.cond (.t 18) .skip (.exit 0)) (.seq (.block 1 (.seq (.reg [⟨(.some 19), (.mv (.t 17)), .none⟩, ⟨(.some 8), (.mv (.t 19)), .none⟩]) (.reg [⟨(.some 20), (.mv (.t 7)), .none⟩, ⟨(.some 21), (.mv (.t 8)), .none⟩, ⟨(.some 22), (.mv (.t 2)), .none⟩, ⟨(.some 23), (.mv (.t 0)), .none⟩, ⟨(.some 24), (.mv (.t 8)), .none⟩, ⟨(.some 25), (.call (.c (.fn 120 [] [])) [(.t 23), (.t 24)]), .none⟩, ⟨(.some 26), (.mv (.t 1)), .none⟩, ⟨(.some 27), (.mv (.t 8)), .none⟩, ⟨(.some 28), (.call (.c (.fn 120 [] [])) [(.t 26), (.t 27)]), .none⟩, ⟨(.some 29), (.call (.t 22) [(.t 25), (.t 28)]), .none⟩, ⟨(.some 30), (.iadr 1 (.t 20) (.t 21)), .none⟩, ⟨.none, (.store 1 (.t 30) (.t 29)), .none⟩]))) (.reg [⟨(.some 31), (.bin .add (.t 17) (.c (.int .i64 1))), .none⟩, ⟨(.some 17), (.mv (.t 31)), .none⟩])))))) (.seq (.reg [⟨(.some 32), (.mv (.t 7)), .none⟩, ⟨(.some 6), (.mv (.t 32)), .none⟩]) .ret)))))
theorem nc102 : nc Try.prog 102 = some (3, [(.t 6)], gc102) := by kernel_rfl
def gc103 : MC := (.seq (.reg [⟨(.some 4), (.mv (.c (.bool .false))), .none⟩]) (.seq (.reg [⟨(.some 5), (.mv (.t 0)), .none⟩, ⟨(.some 6), (.mv (.t 5)), .none⟩, ⟨(.some 7), (.mv (.t 1)), (.some (6, .true))⟩, ⟨(.some 8), (.pick (.t 6) (.t 7) (.c (.bool .false))), .none⟩, ⟨(.some 4), (.mv (.t 8)), .none⟩]) .ret))
theorem nc103 : nc Try.prog 103 = some (2, [(.t 4)], gc103) := by kernel_rfl
def gc104 : MC := (.seq (.reg [⟨(.some 4), (.mv (.c (.bool .false))), .none⟩]) (.seq (.reg [⟨(.some 5), (.mv (.t 0)), .none⟩, ⟨(.some 6), (.mv (.t 5)), .none⟩, ⟨(.some 7), (.mv (.t 1)), (.some (6, .false))⟩, ⟨(.some 8), (.pick (.t 6) (.c (.bool .true)) (.t 7)), .none⟩, ⟨(.some 4), (.mv (.t 8)), .none⟩]) .ret))
theorem nc104 : nc Try.prog 104 = some (2, [(.t 4)], gc104) := by kernel_rfl
end Go.Proofs.Ytpojdgeginigjaa
/- Cuts: the chapter's examples. -/
set_option linter.unusedSimpArgs false
set_option linter.unusedVariables false
namespace Go.Proofs.Ytpojdgeginigjaa
open Go Go.Ar
set_option maxRecDepth 100000

theorem rchT_ind {n : Net} {c : Csr} {f : Nat → Int} (hI : IsCsr n c) {u0 : Nat} {P : Nat → Prop} (h0 : P u0)
    (h1 : ∀ i (hi : i < n.arcs.length) (s d : Nat), n.arcs[i].src = s → n.arcs[i].dst = d → f i < n.arcs[i].cap → P d → P s) (h2 : ∀ i (hi : i < n.arcs.length) (s d : Nat), n.arcs[i].src = s → n.arcs[i].dst = d → 0 < f i → P s → P d) :
    ∀ v, Rch c (fun q => decide (0 < resF c f (c.rev q).toNat)) u0 v → P v := fun v hv => by
  induction hv with
  | refl => exact h0
  | @step u a w _ q1 q2 q3 q4 ih =>
    have ham : a < c.m := by
      by_cases hu : u < c.vs
      · exact (csr_fm hI).1 u a hu q1 q2
      · rw [hI.fst] at q1 q2
        exfalso
        have h5 : fst n.arcs (u + 1) = fst n.arcs u := by
          simp only [fst]
          have : deg n.arcs u = 0 := by
            unfold deg
            rw [List.countP_eq_zero]
            intro x hx hi
            obtain ⟨s, d, e1, e2, hs, hd⟩ := hI.inn x hx
            rw [inc_iff] at hi
            omega
          omega
        omega
    obtain ⟨k, u', v, b, h⟩ := csr_at hI ham
    rw [hI.fst] at q1 q2
    have hvx : u' = u := at_vertex (w := u) h (by omega) (by omega)
    subst hvx
    have hvw : v = w := by have := h.head; omega
    subst hvw
    have hres := resF_at (f := f) (h.symm ham)
    simp only [decide_eq_true_eq] at q3
    rw [h.rev] at q3
    simp only [Int.toNat_natCast] at q3
    rw [hres] at q3
    rcases h.two with ⟨_, e1, e3, e4, _, e5⟩ | ⟨_, e1, e3, e4, _, e5⟩
    · rw [e1] at q3
      exact h2 k h.hk u' v e3 e4 (by simpa using q3) ih
    · rw [e1, e5] at q3
      exact h1 k h.hk v u' e3 e4 (by simp at q3; omega) ih
theorem rchT_fwd {n : Net} {c : Csr} {f : Nat → Int} (hI : IsCsr n c) {u0 i s d : Nat} (hi : i < n.arcs.length) (e1 : n.arcs[i].src = (s : Int)) (e2 : n.arcs[i].dst = (d : Int)) (hf : f i < n.arcs[i].cap) (h : Rch c (fun q => decide (0 < resF c f (c.rev q).toNat)) u0 d) : Rch c (fun q => decide (0 < resF c f (c.rev q).toNat)) u0 s := by
  by_cases hne : s = d
  · rw [hne]; exact h
  obtain ⟨i1, i2⟩ := inc_l e1 e2 hne
  obtain ⟨⟨_, _, g3, g4, g5⟩, k1, k2, _⟩ := hI.fil i hi hi s d e1 e2 hne
  have p1 := pos_ge n.arcs i d
  have p2 := pos_lt hi i2
  refine .step (a := pos n.arcs i d) h (by rw [hI.fst]; omega) (by rw [hI.fst]; omega) ?_ k1
  rw [decide_eq_true_eq, k2]
  simp only [Int.toNat_natCast]
  unfold resF
  rw [if_neg (by simp [g5]), g3, g4]
  simp; omega
theorem rchT_bwd {n : Net} {c : Csr} {f : Nat → Int} (hI : IsCsr n c) {u0 i s d : Nat} (hi : i < n.arcs.length) (e1 : n.arcs[i].src = (s : Int)) (e2 : n.arcs[i].dst = (d : Int)) (hf : 0 < f i) (h : Rch c (fun q => decide (0 < resF c f (c.rev q).toNat)) u0 s) : Rch c (fun q => decide (0 < resF c f (c.rev q).toNat)) u0 d := by
  by_cases hne : s = d
  · rw [← hne]; exact h
  obtain ⟨i1, i2⟩ := inc_l e1 e2 hne
  obtain ⟨⟨k1, k2, _⟩, _, _, g3, g4, g5⟩ := hI.fil i hi hi s d e1 e2 hne
  have p1 := pos_ge n.arcs i s
  have p2 := pos_lt hi i1
  refine .step (a := pos n.arcs i s) h (by rw [hI.fst]; omega) (by rw [hI.fst]; omega) ?_ k1
  rw [decide_eq_true_eq, k2]
  simp only [Int.toNat_natCast]
  unfold resF
  rw [if_pos g5, g4]
  simpa using hf

def fourN : Net := ⟨4, 0, 3, [⟨0, 1, 5⟩, ⟨0, 2, 4⟩, ⟨1, 3, 3⟩, ⟨2, 3, 6⟩, ⟨1, 2, 2⟩]⟩
theorem four_ok (H : Heap) : callL E (.f 74) [] H = some (NV fourN (.sl (H.length + 1) 0 5 5), H ++ [nbox fourN (.sl (H.length + 1) 0 5 5), .cells (acells fourN.arcs) .ex]) := by
  have key : ∃ v H', callL E (.f 74) [] H = some (v, H') ∧ v = NV fourN (.sl (H.length + 1) 0 5 5) ∧ H' = H ++ [nbox fourN (.sl (H.length + 1) 0 5 5), .cells (acells fourN.arcs) .ex] := by
    refine call_E rfl nc74 rfl ?_
    unfold gc74
    refine wa_sr ⟨_, by simp; rfl, ?_⟩
    refine wa_sr ⟨_, by simp -implicitDefEqProofs [fillc]; rfl, ?_⟩
    exact wa_ret ⟨by simp, _, by simp; rfl, rfl, by simp [nbox, fourN, acells, Arc.cells]⟩
  obtain ⟨v, H', h, rfl, rfl⟩ := key
  exact h
theorem four_al (H G : Heap) : AL (H ++ nbox fourN (.sl (H.length + 1) 0 5 5) :: .cells (acells fourN.arcs) .ex :: G) (.sl (H.length + 1) 0 5 5) fourN.arcs := AL.own (m := .ex) (c := 5) (l := fourN.arcs) (k := H.length + 1) (by simp)
theorem four_chk : chk fourN = 0 := by decide
def fS (l : List Bool) (v : Nat) : Bool := l.getD v false
def fI (l : List Int) (v : Nat) : Int := l.getD v 0
theorem caps_ok {z : V} {s : Nat → Bool} {w : Int} {H : Heap} (hz : TB H z 4 fun j => .bool (s j)) (hc : CutP fourN 4 s) (hw : capC fourN.arcs s 5 = w) : ∃ G, callL E (.f 101) [.int .i64 w, z] H = some (.bool true, H ++ G) := by
  have key : ∃ v H', callL E (.f 101) [.int .i64 w, z] H = some (v, H') ∧ ∃ G, v = .bool true ∧ H' = H ++ G := by
    refine call_E rfl nc101 rfl ?_
    unfold gc101
    have h4 := four_ok H
    obtain ⟨G, e1⟩ := cap_ok (four_al H []) (hz.app [nbox fourN (.sl (H.length + 1) 0 5 5), .cells (acells fourN.arcs) .ex]) hc
    have e2 : capC fourN.arcs s fourN.arcs.length = w := hw
    rw [e2] at e1
    generalize hHX : H ++ [nbox fourN (.sl (H.length + 1) 0 5 5), .cells (acells fourN.arcs) .ex] = HX at *
    refine wa_sr ⟨_, by simp; rfl, ?_⟩
    refine wa_sr ⟨_, by simp -implicitDefEqProofs [h4, e1]; rfl, ?_⟩
    refine wa_sr ⟨_, by simp; rfl, ?_⟩
    exact wa_ret ⟨by simp, _, by simp; rfl, _, rfl, by rw [← hHX]; simp; rfl⟩
  obtain ⟨v, H', h, G, rfl, rfl⟩ := key
  exact ⟨G, h⟩
theorem four_cut (b1 b2 : Bool) : CutP fourN 4 (fS [true, b1, b2, false]) := ⟨four_chk, rfl, rfl, rfl⟩
theorem tb_lb (l : List Bool) : l.map V.bool = tb l.length fun j => .bool (fS l j) := bool_of_tb l
theorem lit4 {H G : Heap} {k : Nat} {b1 b2 b3 b4 : Bool} (hk : H[k]? = some (.cells [.bool b1, .bool b2, .bool b3, .bool b4] .ex)) : TB H (.sl k 0 4 4) 4 fun j => .bool (fS [b1, b2, b3, b4] j) := TB.own (G := G) (m := .ex) (by rw [hk]; exact congrArg (fun x => some (Blk.cells x Ar.Mode.ex)) (tb_lb [b1, b2, b3, b4]))
theorem lit5 {H G : Heap} {k : Nat} (hk : H[k]? = some (.cells [.int .i64 5, .int .i64 4, .int .i64 3, .int .i64 6, .int .i64 2] .ex)) : TB H (.sl k 0 5 5) 5 fun j => .int .i64 (fI [5, 4, 3, 6, 2] j) := TB.own (G := G) (m := .ex) (by rw [hk]; exact congrArg (fun x => some (Blk.cells x Ar.Mode.ex)) (int_of_tb [5, 4, 3, 6, 2] .i64))
theorem five {P : Nat → Prop} (h0 : P 0) (h1 : P 1) (h2 : P 2) (h3 : P 3) (h4 : P 4) : ∀ i, i < 5 → P i
  | 0, _ => h0
  | 1, _ => h1
  | 2, _ => h2
  | 3, _ => h3
  | 4, _ => h4
theorem four_within : WithinP fourN 5 (fI [5, 4, 3, 6, 2]) := ⟨four_chk, rfl, fun i hi => by
  have := five (P := fun i => ∀ hi : i < fourN.arcs.length, 0 ≤ fI [5, 4, 3, 6, 2] i ∧ fI [5, 4, 3, 6, 2] i ≤ fourN.arcs[i].cap) (by decide) (by decide) (by decide) (by decide) (by decide) i hi
  exact this hi⟩
theorem four_full : ∀ i (hi : i < fourN.arcs.length), ¬ (fI [5, 4, 3, 6, 2] i < fourN.arcs[i].cap) := fun i hi =>
  five (P := fun i => ∀ hi : i < fourN.arcs.length, ¬ (fI [5, 4, 3, 6, 2] i < fourN.arcs[i].cap)) (by decide) (by decide) (by decide) (by decide) (by decide) i hi hi
theorem four_ends : ∀ i (hi : i < fourN.arcs.length), fourN.arcs[i].dst ≠ 0 ∧ fourN.arcs[i].src ≠ 3 := fun i hi =>
  five (P := fun i => ∀ hi : i < fourN.arcs.length, fourN.arcs[i].dst ≠ 0 ∧ fourN.arcs[i].src ≠ 3) (by decide) (by decide) (by decide) (by decide) (by decide) i hi hi
theorem four_tight : TightP fourN 5 4 (fI [5, 4, 3, 6, 2]) (fS [true, true, false, false]) := ⟨four_cut true false, four_within, fun i hi =>
  five (P := fun i => ∀ hi : i < fourN.arcs.length, (outS (fS [true, true, false, false]) fourN.arcs[i] = true → fourN.arcs[i].cap ≤ fI [5, 4, 3, 6, 2] i) ∧ (inS (fS [true, true, false, false]) fourN.arcs[i] = true → fI [5, 4, 3, 6, 2] i ≤ 0)) (by decide) (by decide) (by decide) (by decide) (by decide) i hi hi⟩

set_option maxHeartbeats 4000000 in
theorem awake04 (H : Heap) : ∃ G, callL E (.f 64) [] H = some (.bool true, H ++ G) := by
  have key : ∃ v H', callL E (.f 64) [] H = some (v, H') ∧ ∃ G, v = .bool true ∧ H' = H ++ G := by
    refine call_E rfl nc64 rfl ?_
    unfold gc64
    refine wa_sr ⟨_, by simp; rfl, ?_⟩
    have h4 := four_ok H
    have hA := four_al H []
    have hp := Hp.app H [nbox fourN (.sl (H.length + 1) 0 5 5), .cells (acells fourN.arcs) .ex]
    have e4 : H ++ [nbox fourN (.sl (H.length + 1) 0 5 5), .cells (acells fourN.arcs) .ex] = H ++ nbox fourN (.sl (H.length + 1) 0 5 5) :: .cells (acells fourN.arcs) .ex :: [] := rfl
    generalize H.length + 1 = kx at *
    generalize H ++ [nbox fourN (.sl kx 0 5 5), .cells (acells fourN.arcs) .ex] = HX at *
    unfold NV fourN at h4
    refine wa_sr ⟨_, by simp -implicitDefEqProofs [fillc, h4]; rfl, ?_⟩
    have hA := (e4 ▸ hA).app [.cells [.int .i64 5, .int .i64 4, .int .i64 3, .int .i64 6, .int .i64 2] .ex, nbox fourN (.sl kx 0 5 5)]
    have hp := hp.x (Hp.app HX [.cells [.int .i64 5, .int .i64 4, .int .i64 3, .int .i64 6, .int .i64 2] .ex, nbox fourN (.sl kx 0 5 5)])
    have gb : (HX ++ [.cells [.int .i64 5, .int .i64 4, .int .i64 3, .int .i64 6, .int .i64 2] .ex, nbox fourN (.sl kx 0 5 5)])[HX.length + 1]? = some (nbox fourN (.sl kx 0 5 5)) := by simp
    have hF : TB (HX ++ [.cells [.int .i64 5, .int .i64 4, .int .i64 3, .int .i64 6, .int .i64 2] .ex, nbox fourN (.sl kx 0 5 5)]) (.sl HX.length 0 5 5) 5 fun j => .int .i64 (fI [5, 4, 3, 6, 2] j) := lit5 (G := []) (by simp [getElem?_app0])
    refine wa_rg [(1, .ptr (HX.length + 1) 0), (2, .sl HX.length 0 5 5)] (by simp [Rg]) ?_
    change ∀ τ', Rg τ' _ → WP E _ ⟨τ', HX ++ [.cells [.int .i64 5, .int .i64 4, .int .i64 3, .int .i64 6, .int .i64 2] .ex, nbox fourN (.sl kx 0 5 5)]⟩ _
    clear h4 e4
    generalize HX ++ [.cells [.int .i64 5, .int .i64 4, .int .i64 3, .int .i64 6, .int .i64 2] .ex, nbox fourN (.sl kx 0 5 5)] = HB at *
    generalize HX.length + 1 = k1 at *
    generalize HX.length = kf at *
    rintro τ ⟨t1, t2, -⟩
    dsimp only at t1 t2
    -- what goes across
    have b4 : ∀ X, rdn (HB ++ X) k1 0 4 = some [.int .i64 4, .int .i64 0, .int .i64 3, .sl kx 0 5 5] := fun X => rdn_all gb rfl
    have b4e := b4 []
    rw [List.append_nil] at b4e
    obtain ⟨G1, e1⟩ := acr_fn (hA.app [.cells [.bool true, .bool true, .bool false, .bool false] .ex]) (hF.app [.cells [.bool true, .bool true, .bool false, .bool false] .ex]) (lit4 (G := []) (k := HB.length) (b1 := true) (b2 := true) (b3 := false) (b4 := false) (by simp)) (four_cut true false) four_within
    have v9 : acrF fourN.arcs (fS [true, true, false, false]) (fI [5, 4, 3, 6, 2]) fourN.arcs.length = 9 := by decide
    rw [v9] at e1
    unfold NV at e1
    refine wa_sr ⟨_, by simp -implicitDefEqProofs [t1, t2, b4e, fillc, show callL E (.f 66) [.agg [.int .i64 4, .int .i64 0, .int .i64 3, .sl kx 0 5 5], .sl kf 0 5 5, .sl HB.length 0 4 4] (HB ++ [.cells [.bool true, .bool true, .bool false, .bool false] .ex]) = _ from e1]; rfl, ?_⟩
    have hA := hA.app ([.cells [.bool true, .bool true, .bool false, .bool false] .ex] ++ G1)
    have hF := hF.app ([.cells [.bool true, .bool true, .bool false, .bool false] .ex] ++ G1)
    have gb := get_pre (X := [.cells [.bool true, .bool true, .bool false, .bool false] .ex] ++ G1) gb
    have hp := hp.x (Hp.app HB ([.cells [.bool true, .bool true, .bool false, .bool false] .ex] ++ G1))
    refine wa_rg [(1, .ptr k1 0), (2, .sl kf 0 5 5), (3, .int .i64 9), (4, .int .i64 0)] (by simp [Rg, t1, t2]) ?_
    change ∀ τ', Rg τ' _ → WP E _ ⟨τ', HB ++ ([.cells [.bool true, .bool true, .bool false, .bool false] .ex] ++ G1)⟩ _
    clear e1 b4 b4e t1 t2 τ
    generalize HB ++ ([.cells [.bool true, .bool true, .bool false, .bool false] .ex] ++ G1) = HC at *
    rintro τ ⟨t1, t2, t3, t4, -⟩
    dsimp only at t1 t2 t3 t4
    -- From
    obtain ⟨c, out, F, G2, hI, e1, hR⟩ := from_ok (S := 0) (vn := 4) hA hF four_within rfl rfl
    have b4e := rdn_all (X := []) (n := 4) gb rfl
    rw [List.append_nil] at b4e
    have b4e' : rdn HC k1 0 4 = some [.int .i64 4, .int .i64 0, .int .i64 3, .sl kx 0 5 5] := b4e
    have e1' : callL E (.f 33) [.agg [.int .i64 4, .int .i64 0, .int .i64 3, .sl kx 0 5 5], .sl kf 0 5 5] HC = some (.tup [.sl (HC ++ F).length 0 4 4, .int .i64 0], HC ++ (F ++ rB 4 out :: G2)) := by rw [← List.append_assoc]; exact e1
    have hO : TB (HC ++ (F ++ rB 4 out :: G2)) (.sl (HC ++ F).length 0 4 4) 4 fun j => .bool (fS [true, false, false, false] j) := by
      have h1 : TB (HC ++ (F ++ rB 4 out :: G2)) (.sl (HC ++ F).length 0 4 4) 4 fun j => .bool (out j) := TB.own (G := []) (m := .ex) (by rw [← List.append_assoc]; simp [rB])
      refine h1.congr fun j hj => ?_
      have h0 : ∀ v, Rch c (fun q => decide (0 < resF c (fI [5, 4, 3, 6, 2]) q)) 0 v → v = 0 := rch_ind hI (fun i hi => four_within.2.2 i hi) rfl (fun i hi s d _ _ hlt _ => absurd hlt (four_full i hi)) (fun i hi s d _ e2 _ hd => absurd (by rw [e2, hd]; rfl) (four_ends i hi).1)
      congr 1
      rw [Bool.eq_iff_iff, hR j hj]
      constructor
      · intro h; rw [h0 j h]; rfl
      · intro h
        have : j = 0 := by
          match j, hj, h with
          | 0, _, _ => rfl
          | 1, _, h => exact absurd h (by decide)
          | 2, _, h => exact absurd h (by decide)
          | 3, _, h => exact absurd h (by decide)
        rw [this]; exact .refl
    have hA := hA.app (F ++ rB 4 out :: G2)
    have hF := hF.app (F ++ rB 4 out :: G2)
    have gb := get_pre (X := F ++ rB 4 out :: G2) gb
    have hp := hp.x (Hp.app HC (F ++ rB 4 out :: G2))
    refine wa_sr ⟨_, by simp -implicitDefEqProofs [-List.append_assoc, -List.length_append, t1, t2, b4e', e1']; rfl, ?_⟩
    refine wa_rg [(1, .ptr k1 0), (2, .sl kf 0 5 5), (3, .int .i64 9), (4, .int .i64 0), (5, .sl (HC ++ F).length 0 4 4), (6, .int .i64 0)] (by simp [Rg, t1, t2, t3, t4]) ?_
    clear e1 e1' b4e b4e' t1 t2 t3 t4 τ
    generalize HC ++ (F ++ rB 4 out :: G2) = HD at *
    generalize (HC ++ F).length = k5 at *
    rintro τ ⟨t1, t2, t3, t4, t5, t6, -⟩
    dsimp only at t1 t2 t3 t4 t5 t6
    -- To
    obtain ⟨c, out, F, G2, hI, e1, hR⟩ := to_ok (S := 3) (vn := 4) hA hF four_within rfl rfl
    have b4e := rdn_all (X := []) (n := 4) gb rfl
    rw [List.append_nil] at b4e
    have b4e' : rdn HD k1 0 4 = some [.int .i64 4, .int .i64 0, .int .i64 3, .sl kx 0 5 5] := b4e
    have e1' : callL E (.f 43) [.agg [.int .i64 4, .int .i64 0, .int .i64 3, .sl kx 0 5 5], .sl kf 0 5 5] HD = some (.tup [.sl (HD ++ F).length 0 4 4, .int .i64 0], HD ++ (F ++ rB 4 out :: G2)) := by rw [← List.append_assoc]; exact e1
    have hO2 : TB (HD ++ (F ++ rB 4 out :: G2)) (.sl (HD ++ F).length 0 4 4) 4 fun j => .bool (fS [true, true, true, false] j) := by
      have h1 : TB (HD ++ (F ++ rB 4 out :: G2)) (.sl (HD ++ F).length 0 4 4) 4 fun j => .bool (out j) := TB.own (G := []) (m := .ex) (by rw [← List.append_assoc]; simp [rB])
      refine h1.congr fun j hj => ?_
      have h0 : ∀ v, Rch c (fun q => decide (0 < resF c (fI [5, 4, 3, 6, 2]) (c.rev q).toNat)) 3 v → v = 3 := rchT_ind hI rfl (fun i hi s d _ _ hlt _ => absurd hlt (four_full i hi)) (fun i hi s d e1 _ _ hs => absurd (by rw [e1, hs]; rfl) (four_ends i hi).2)
      congr 1
      rw [Bool.eq_iff_iff, hR j hj]
      constructor
      · intro h
        match j, hj, h with
        | 0, _, _ => rfl
        | 1, _, _ => rfl
        | 2, _, _ => rfl
        | 3, _, h => exact absurd .refl h
      · intro h h2
        have := h0 j h2
        subst this
        exact absurd h (by decide)
    have hO := hO.app (F ++ rB 4 out :: G2)
    have hA := hA.app (F ++ rB 4 out :: G2)
    have hF := hF.app (F ++ rB 4 out :: G2)
    have gb := get_pre (X := F ++ rB 4 out :: G2) gb
    have hp := hp.x (Hp.app HD (F ++ rB 4 out :: G2))
    refine wa_sr ⟨_, by simp -implicitDefEqProofs [-List.append_assoc, -List.length_append, t1, t2, b4e', e1']; rfl, ?_⟩
    refine wa_rg [(1, .ptr k1 0), (2, .sl kf 0 5 5), (3, .int .i64 9), (4, .int .i64 0), (5, .sl k5 0 4 4), (6, .int .i64 0), (7, .sl (HD ++ F).length 0 4 4), (8, .int .i64 0)] (by simp [Rg, t1, t2, t3, t4, t5, t6]) ?_
    clear e1 e1' b4e b4e' t1 t2 t3 t4 t5 t6 τ
    generalize HD ++ (F ++ rB 4 out :: G2) = HE at *
    generalize (HD ++ F).length = k7 at *
    rintro τ ⟨t1, t2, t3, t4, t5, t6, t7, t8, -⟩
    dsimp only at t1 t2 t3 t4 t5 t6 t7 t8
    -- all of it
    obtain ⟨G1, e1⟩ := caps_ok (z := .sl HE.length 0 4 4) (w := 9) (H := HE ++ [.cells [.bool true, .bool false, .bool false, .bool false] .ex]) (lit4 (G := []) (by simp)) (four_cut false false) (by decide)
    simp only [List.append_assoc, List.cons_append, List.nil_append] at e1
    obtain ⟨G2, e2⟩ := caps_ok (z := .sl (HE.length + (G1.length + 1)) 0 4 4) (w := 9) (H := HE ++ (.cells [.bool true, .bool false, .bool false, .bool false] .ex :: (G1 ++ [.cells [.bool true, .bool true, .bool false, .bool false] .ex]))) (lit4 (G := []) (by simp)) (four_cut true false) (by decide)
    simp only [List.append_assoc, List.cons_append, List.nil_append] at e2
    obtain ⟨G3, e3⟩ := caps_ok (z := .sl (HE.length + (G1.length + (G2.length + 1) + 1)) 0 4 4) (w := 11) (H := HE ++ (.cells [.bool true, .bool false, .bool false, .bool false] .ex :: (G1 ++ .cells [.bool true, .bool true, .bool false, .bool false] .ex :: (G2 ++ [.cells [.bool true, .bool false, .bool true, .bool false] .ex])))) (lit4 (G := []) (by simp)) (four_cut false true) (by decide)
    simp only [List.append_assoc, List.cons_append, List.nil_append] at e3
    have gb0 : ∀ X, rdn (HE ++ X) k1 0 4 = some [.int .i64 4, .int .i64 0, .int .i64 3, .sl kx 0 5 5] := fun X => rdn_all gb rfl
    obtain ⟨G4, e4⟩ := tight_ok (b := true) (z := .sl (HE.length + (G1.length + (G2.length + (G3.length + 1) + 1) + 1)) 0 4 4) (hA.app (.cells [.bool true, .bool false, .bool false, .bool false] .ex :: (G1 ++ .cells [.bool true, .bool true, .bool false, .bool false] .ex :: (G2 ++ .cells [.bool true, .bool false, .bool true, .bool false] .ex :: (G3 ++ [.cells [.bool true, .bool true, .bool false, .bool false] .ex])))))
      (by decide) (hF.app _) (lit4 (G := []) (b1 := true) (b2 := true) (b3 := false) (b4 := false) (by simp)) (by simp [four_tight])
    simp only [List.append_assoc, List.cons_append, List.nil_append] at e4
    have e4' : callL E (.f 67) [.agg [.int .i64 4, .int .i64 0, .int .i64 3, .sl kx 0 5 5], .sl kf 0 5 5, .sl (HE.length + (G1.length + (G2.length + (G3.length + 1) + 1) + 1)) 0 4 4] (HE ++ (.cells [.bool true, .bool false, .bool false, .bool false] .ex :: (G1 ++ .cells [.bool true, .bool true, .bool false, .bool false] .ex :: (G2 ++ .cells [.bool true, .bool false, .bool true, .bool false] .ex :: (G3 ++ [.cells [.bool true, .bool true, .bool false, .bool false] .ex]))))) = _ := e4
    obtain ⟨G5, e5⟩ := (pc_bools (b := .sl (HE.length + (G1.length + (G2.length + (G3.length + (G4.length + 1) + 1) + 1) + 1)) 0 4 4) (hO.app (.cells [.bool true, .bool false, .bool false, .bool false] .ex :: (G1 ++ .cells [.bool true, .bool true, .bool false, .bool false] .ex :: (G2 ++ .cells [.bool true, .bool false, .bool true, .bool false] .ex :: (G3 ++ .cells [.bool true, .bool true, .bool false, .bool false] .ex :: (G4 ++ [.cells [.bool true, .bool false, .bool false, .bool false] .ex]))))))
      (lit4 (G := []) (by simp)) (by decide)).run
    simp only [List.append_assoc, List.cons_append, List.nil_append] at e5
    obtain ⟨G6, e6⟩ := (pc_bools (b := .sl (HE.length + (G1.length + (G2.length + (G3.length + (G4.length + (G5.length + 1) + 1) + 1) + 1) + 1)) 0 4 4) (hO2.app (.cells [.bool true, .bool false, .bool false, .bool false] .ex :: (G1 ++ .cells [.bool true, .bool true, .bool false, .bool false] .ex :: (G2 ++ .cells [.bool true, .bool false, .bool true, .bool false] .ex :: (G3 ++ .cells [.bool true, .bool true, .bool false, .bool false] .ex :: (G4 ++ .cells [.bool true, .bool false, .bool false, .bool false] .ex :: (G5 ++ [.cells [.bool true, .bool true, .bool true, .bool false] .ex])))))))
      (lit4 (G := []) (by simp)) (by decide)).run
    simp only [List.append_assoc, List.cons_append, List.nil_append] at e6
    refine wa_sr ⟨_, by simp -implicitDefEqProofs [t1, t2, t3, t4, t5, t6, t7, t8, fillc, gb0, e1, e2, e3, e4', e5, e6]; rfl, ?_⟩
    obtain ⟨G', hG'⟩ := hp.eq
    exact wa_ret ⟨by simp, _, by simp; rfl, _, rfl, by rw [hG', List.append_assoc]⟩
  obtain ⟨v, H', h, G, rfl, rfl⟩ := key
  exact ⟨G, h⟩
end Go.Proofs.Ytpojdgeginigjaa
/- Cuts: a side made a cut. -/
set_option linter.unusedSimpArgs false
set_option linter.unusedVariables false
namespace Go.Proofs.Ytpojdgeginigjaa
open Go Go.Ar
set_option maxRecDepth 100000

theorem wrc_tb {n ns m : Nat} {g g0 : Nat → V} (h1 : m ≤ n) (h2 : m ≤ ns) : wrc (tb n g0) 0 ((tb ns g).take m) = tb n fun j => if j < m then g j else g0 j := by
  refine List.ext_getElem? fun j => ?_
  have hl : ((tb ns g).take m).length = m := by simp; omega
  rw [getElem?_wrc _ _ _ _ (by simp; omega), hl]
  by_cases hj : j < n
  · have r1 := tb_get (g := fun j => if j < m then g j else g0 j) hj
    rw [r1]
    by_cases h3 : j < m
    · rw [if_pos (by omega), if_pos h3, List.getElem?_take, if_pos (by omega), tb_get (by omega)]; rfl
    · rw [if_neg (by omega), if_neg h3, tb_get hj]
  · rw [if_neg (by omega), List.getElem?_eq_none (by simp; omega), List.getElem?_eq_none (by simp; omega)]
def sideF (S T ns : Nat) (s : Nat → Bool) (v : Nat) : Bool := if v = T then false else if v = S then true else decide (v < ns) && s v

set_option maxHeartbeats 2000000 in
theorem side_ok {n : Net} {a z : V} {ns vn S T : Nat} {s : Nat → Bool} {H : Heap} (h : AL H a n.arcs) (hz : TB H z ns fun j => .bool (s j)) (hN : n.N = (vn : Int)) (hv : vn ≤ 4096) (hS : n.S = (S : Int)) (hT : n.T = (T : Int)) (hSv : S < vn) (hTv : T < vn) :
    callL E (.f 65) [NV n a, z] H = some (.sl (H.length + 1) 0 vn vn, H ++ [nbox n a, rB vn (sideF S T ns s)]) := by
  have key : ∃ v H', callL E (.f 65) [NV n a, z] H = some (v, H') ∧ v = .sl (H.length + 1) 0 vn vn ∧ H' = H ++ [nbox n a, rB vn (sideF S T ns s)] := by
    refine call_E rfl nc65 rfl ?_
    unfold gc65 NV
    have hl : lenOf a = some n.arcs.length := Rw.len h
    obtain ⟨N, S', T', l⟩ := n
    dsimp only at *
    subst hN hS hT
    have hlim : (vn : Int) ≤ (lim : Nat) := by unfold lim; omega
    have hp2 : (vn : Int) ≤ 1099511627776 := by omega
    have hS2 : S + 1 ≤ vn := hSv
    have hT2 : T + 1 ≤ vn := hTv
    refine wa_sr ⟨_, by simp [len_cells hl]; rfl, ?_⟩
    refine wa_sr ⟨_, by simp -implicitDefEqProofs [hlim, hp2]; rfl, ?_⟩
    have hzz := hz.app [.cells [.int .i64 vn, .int .i64 S, .int .i64 T, a] .ex, .cells (tb vn fun _ => .bool false) .ex]
    have hcp : ∀ (call : CallF) (τ : Nat → V), τ 9 = .sl (H.length + 1) 0 vn vn → τ 10 = z → aop call τ (H ++ [.cells [.int .i64 vn, .int .i64 S, .int .i64 T, a] .ex, .cells (tb vn fun _ => .bool false) .ex]) (.copy 1 (.t 9) (.t 10)) = some (.int .i64 ((min ns vn : Nat) : Int), H ++ [.cells [.int .i64 vn, .int .i64 S, .int .i64 T, a] .ex, .cells (tb vn fun v => .bool (decide (v < ns) && s v)) .ex]) := fun call τ q1 q2 => by
      rw [aop_copy]
      simp only [ev, q1, q2, lenAt_sl, hz.len, hzz.cells, Nat.mul_one]
      have hw : wr (H ++ [.cells [.int .i64 vn, .int .i64 S, .int .i64 T, a] .ex, .cells (tb vn fun _ => .bool false) .ex]) (H.length + 1) 0 ((tb ns fun j => .bool (s j)).take (min ns vn)) = some (H ++ [.cells [.int .i64 vn, .int .i64 S, .int .i64 T, a] .ex, .cells (tb vn fun v => .bool (decide (v < ns) && s v)) .ex]) := by
        rw [wr_appn, wr_cs, wr_c0, if_neg (by simp [Ar.Mode.wr]), if_pos (by simp; omega), if_pos (by
          rw [List.all_eq_true]
          intro y hy
          have := List.mem_of_mem_take hy
          obtain ⟨j, _, rfl⟩ := List.mem_map.1 this
          rfl), wrc_tb (by omega) (by omega)]
        simp only [Option.map_some]
        congr 5
        exact tb_congr fun j hj => by
          by_cases e : j < ns
          · rw [if_pos (by omega)]; simp [e]
          · rw [if_neg (by omega)]; simp [e]
      rw [hw]
      have : min (ns : Int) (vn : Int) = ((min ns vn : Nat) : Int) := by omega
      simp only [Option.map_some, this]
    refine wa_sr ⟨_, by simp -implicitDefEqProofs [-aop_copy, hcp]; rfl, ?_⟩
    have hk : (H.length == H.length + 1) = false := by simp
    refine wa_seq (wa_dreg (s' := _) (by
      rw [dinsL_plain rfl]
      simp -implicitDefEqProofs [hSv, hTv, hS2, hT2]
      rfl) (by simp [Chk.ok, V.blk?, hk, bne]) ?_)
    refine wa_sr ⟨_, by simp; rfl, ?_⟩
    refine wa_ret ⟨by simp, _, by simp; rfl, rfl, ?_⟩
    simp only [nbox, rB]
    congr 4
    exact tb_congr fun j _ => by
      unfold sideF
      by_cases e1 : j = T
      · rw [if_pos e1, if_pos e1]
      · rw [if_neg e1, if_neg e1]
        by_cases e2 : j = S
        · rw [if_pos e2, if_pos e2]
        · rw [if_neg e2, if_neg e2]
  obtain ⟨v, H', h1, rfl, rfl⟩ := key
  exact h1
theorem side_cut {n : Net} {ns vn S T : Nat} {s : Nat → Bool} (hc : chk n = 0) (hN : n.N = (vn : Int)) (hS : n.S = (S : Int)) (hT : n.T = (T : Int)) (hST : S ≠ T) : CutP n vn (sideF S T ns s) := by
  refine ⟨hc, hN.symm, ?_, ?_⟩
  · rw [hS]; simp [sideF, hST]
  · rw [hT]; simp [sideF]
/-- What of a net that is right is needed. -/
theorem chk_st {n : Net} (hc : chk n = 0) : ∃ vn S T : Nat, n.N = (vn : Int) ∧ n.S = (S : Int) ∧ n.T = (T : Int) ∧ S < vn ∧ T < vn ∧ S ≠ T ∧ 2 ≤ vn ∧ vn ≤ 4096 ∧ n.arcs.length ≤ 16384 ∧ inN vn n.arcs := by
  obtain ⟨vn, hvn, hv2, hv4, hlm, hin⟩ := chk_inN hc
  obtain ⟨_, _, h3, _⟩ := chk_zero hc
  rw [okE_iff] at h3
  exact ⟨vn, n.S.toNat, n.T.toNat, hvn, by omega, by omega, by omega, by omega, by omega, hv2, hv4, hlm, hin⟩

theorem cl103 (x y : Bool) (H : Heap) : callL E (.f 103) [.bool x, .bool y] H = some (.bool (x && y), H) := by
  have key : ∃ w H', callL E (.f 103) [.bool x, .bool y] H = some (w, H') ∧ w = .bool (x && y) ∧ H' = H := by
    refine call_E rfl nc103 rfl ?_
    unfold gc103
    refine wa_sr ⟨_, by simp; rfl, ?_⟩
    cases x with
    | true =>
      refine wa_sr ⟨_, by simp; rfl, ?_⟩
      exact wa_ret ⟨by simp, _, by simp; rfl, by simp [pack], rfl⟩
    | false =>
      refine wa_sr ⟨_, by simp; rfl, ?_⟩
      exact wa_ret ⟨by simp, _, by simp; rfl, by simp [pack], rfl⟩
  obtain ⟨w, H', h, rfl, rfl⟩ := key
  exact h
theorem cl104 (x y : Bool) (H : Heap) : callL E (.f 104) [.bool x, .bool y] H = some (.bool (x || y), H) := by
  have key : ∃ w H', callL E (.f 104) [.bool x, .bool y] H = some (w, H') ∧ w = .bool (x || y) ∧ H' = H := by
    refine call_E rfl nc104 rfl ?_
    unfold gc104
    refine wa_sr ⟨_, by simp; rfl, ?_⟩
    cases x with
    | true =>
      refine wa_sr ⟨_, by simp; rfl, ?_⟩
      exact wa_ret ⟨by simp, _, by simp; rfl, by simp [pack], rfl⟩
    | false =>
      refine wa_sr ⟨_, by simp; rfl, ?_⟩
      exact wa_ret ⟨by simp, _, by simp; rfl, by simp [pack], rfl⟩
  obtain ⟨w, H', h, rfl, rfl⟩ := key
  exact h
def mixB (f : Nat → Bool) (i v : Nat) : Bool := if v < i then f v else false
theorem both_ok {a b : V} {vn gk : Nat} {s t : Nat → Bool} {op : Bool → Bool → Bool} {H : Heap} (ha : TB H a vn fun j => .bool (s j)) (hb : TB H b vn fun j => .bool (t j)) (hv : vn ≤ 4096) (hop : ∀ x y H, callL E (.f gk) [.bool x, .bool y] H = some (.bool (op x y), H)) :
    callL E (.f 102) [a, b, .fn gk [] []] H = some (.sl H.length 0 vn vn, H ++ [rB vn fun v => op (s v) (t v)]) := by
  have key : ∃ w H', callL E (.f 102) [a, b, .fn gk [] []] H = some (w, H') ∧ w = .sl H.length 0 vn vn ∧ H' = H ++ [rB vn fun v => op (s v) (t v)] := by
    refine call_E rfl nc102 rfl ?_
    unfold gc102
    have hlim : (vn : Int) ≤ (lim : Nat) := by unfold lim; omega
    have hp2 : (vn : Int) ≤ 1099511627776 := by omega
    refine wa_sr ⟨_, by simp; rfl, ?_⟩
    refine wa_sr ⟨_, by simp -implicitDefEqProofs [ha.len, hb.len, hlim, hp2]; rfl, ?_⟩
    refine wa_sr ⟨_, by simp; rfl, ?_⟩
    refine wa_cut (fun s' => s'.H = H ++ [rB vn fun v => op (s v) (t v)] ∧ s'.τ 7 = .sl H.length 0 vn vn) ?_ ?_
    · refine wa_for (n := vn) (fun i (_ : Unit) => [(0, a), (1, b), (2, .fn gk [] []), (7, .sl H.length 0 vn vn)]) (fun i _ H' => H' = H ++ [rB vn (mixB (fun v => op (s v) (t v)) i)]) ()
        (by decide) (fun i hi => w64 (by omega) (by omega)) (by simp) (by simp) (by simp [Rg]) (by simp [rB, mixB]) (by simp) ?_ ?_
      · rintro i _ τ _ hi t17 t16 ⟨t0, t1, t2, t7, -⟩ rfl
        dsimp only [ev] at *
        have h1 := has_ok (ha.app [rB vn (mixB (fun v => op (s v) (t v)) i)]) hi
        have h2 := has_ok (hb.app [rB vn (mixB (fun v => op (s v) (t v)) i)]) hi
        have h3 := hop (s i) (t i) (H ++ [rB vn (mixB (fun v => op (s v) (t v)) i)])
        have hwr : wr (H ++ [rB vn (mixB (fun v => op (s v) (t v)) i)]) H.length i [.bool (op (s i) (t i))] = some (H ++ [rB vn (mixB (fun v => op (s v) (t v)) (i + 1))]) := by
          have := wr1 (H := H ++ [rB vn (mixB (fun v => op (s v) (t v)) i)]) (k := H.length) (o := i) (v := .bool (op (s i) (t i))) (cs := tb vn fun v => V.bool (mixB (fun v => op (s v) (t v)) i v)) (m := .ex) (by simp [rB, getElem?_app0]) rfl (by simpa using hi) rfl
          rw [this, tb_set]
          have e : ∀ j, (if j = i then V.bool (op (s i) (t i)) else V.bool (mixB (fun v => op (s v) (t v)) i j)) = V.bool (mixB (fun v => op (s v) (t v)) (i + 1) j) := fun j => by
            unfold mixB
            by_cases e1 : j = i
            · subst e1; simp
            · rw [if_neg e1]
              by_cases e2 : j < i
              · rw [if_pos e2, if_pos (by omega)]
              · rw [if_neg e2, if_neg (by omega)]
          simp only [e]
          simp [set_app0, rB]
        refine wa_sr ⟨_, by simp [t17]; rfl, ?_⟩
        refine wa_regs ⟨_, by simp -implicitDefEqProofs [t0, t1, t2, t7, t17, hi, h1, h2, h3, hwr]; rfl, ?_⟩
        exact ⟨by simp [t17], by simp [t16], (), by simp [Rg, t0, t1, t2, t7], rfl⟩
      · rintro _ τ H' ⟨_, _, _, t7, -⟩ h'
        refine ⟨h'.trans ?_, t7⟩
        exact congrArg (fun x => H ++ [Blk.cells x Ar.Mode.ex]) (tb_congr fun j hj => by unfold mixB; rw [if_pos hj])
    · rintro ⟨τ, H'⟩ ⟨h', t7⟩
      dsimp only at h' t7
      subst h'
      refine wa_sr ⟨_, by simp -implicitDefEqProofs [t7]; rfl, ?_⟩
      exact wa_ret ⟨by simp, _, by simp; rfl, rfl, rfl⟩
  obtain ⟨w, H', h1, rfl, rfl⟩ := key
  exact h1
theorem and_ok {a b : V} {vn : Nat} {s t : Nat → Bool} {H : Heap} (ha : TB H a vn fun j => .bool (s j)) (hb : TB H b vn fun j => .bool (t j)) (hv : vn ≤ 4096) :
    callL E (.f 68) [a, b] H = some (.sl H.length 0 vn vn, H ++ [rB vn fun v => s v && t v]) := by
  have key : ∃ w H', callL E (.f 68) [a, b] H = some (w, H') ∧ w = .sl H.length 0 vn vn ∧ H' = H ++ [rB vn fun v => s v && t v] := by
    refine call_E rfl nc68 rfl ?_
    unfold gc68
    refine wa_sr ⟨_, by simp; rfl, ?_⟩
    refine wa_sr ⟨_, by simp -implicitDefEqProofs [both_ok (op := fun x y => x && y) ha hb hv cl103]; rfl, ?_⟩
    exact wa_ret ⟨by simp, _, by simp; rfl, rfl, rfl⟩
  obtain ⟨w, H', h1, rfl, rfl⟩ := key
  exact h1
theorem or_ok {a b : V} {vn : Nat} {s t : Nat → Bool} {H : Heap} (ha : TB H a vn fun j => .bool (s j)) (hb : TB H b vn fun j => .bool (t j)) (hv : vn ≤ 4096) :
    callL E (.f 69) [a, b] H = some (.sl H.length 0 vn vn, H ++ [rB vn fun v => s v || t v]) := by
  have key : ∃ w H', callL E (.f 69) [a, b] H = some (w, H') ∧ w = .sl H.length 0 vn vn ∧ H' = H ++ [rB vn fun v => s v || t v] := by
    refine call_E rfl nc69 rfl ?_
    unfold gc69
    refine wa_sr ⟨_, by simp; rfl, ?_⟩
    refine wa_sr ⟨_, by simp -implicitDefEqProofs [both_ok (op := fun x y => x || y) ha hb hv cl104]; rfl, ?_⟩
    exact wa_ret ⟨by simp, _, by simp; rfl, rfl, rfl⟩
  obtain ⟨w, H', h1, rfl, rfl⟩ := key
  exact h1
end Go.Proofs.Ytpojdgeginigjaa
