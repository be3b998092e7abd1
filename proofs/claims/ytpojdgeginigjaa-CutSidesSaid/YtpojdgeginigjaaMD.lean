/- The chapters' examples, which all laws ask: those that are taken as known. -/
import Derived.Test.YtpojdgeginigjaaMC
import Derived.Test.YtpojdgeginigjaaProg
import Derived.KernelRfl
namespace Go.Proofs.Ytpojdgeginigjaa
open Go Go.Ar
def awk : List Nat := [26, 50, 39]
noncomputable def E : Env := envL Try.prog awk
end Go.Proofs.Ytpojdgeginigjaa
/- The flat code of functions. -/
set_option linter.unusedSimpArgs false
set_option linter.unusedVariables false
namespace Go.Proofs.Ytpojdgeginigjaa
open Go Go.Ar
set_option maxRecDepth 100000
def gc27 : MC := (.seq (.reg [⟨(.some 1), (.box 4 (.t 0)), .none⟩, ⟨(.some 2), (.alloc [(.int .i64 0), (.int .i64 0), (.int .i64 0), .nils]), .none⟩]) (.seq (.reg [⟨(.some 3), (.fadr 3 (.t 1)), .none⟩, ⟨(.some 4), (.load 1 .false (.t 3)), .none⟩, ⟨(.some 5), (.call (.c (.fn 76 [] [])) [(.t 4)]), .none⟩, ⟨(.some 6), (.fadr 3 (.t 1)), .none⟩, ⟨.none, (.store 1 (.t 6) (.t 5)), .none⟩]) (.seq (.reg [⟨(.some 7), (.load 4 .true (.t 1)), .none⟩, ⟨.none, (.store 4 (.t 2) (.t 7)), .none⟩]) .ret)))
theorem nc27 : nc Try.prog 27 = some (1, [(.c 2 4 .true)], gc27) := by kernel_rfl
def gc28 : MC := (.seq (.reg [⟨(.some 1), (.box 4 (.t 0)), .none⟩, ⟨(.some 2), (.mv (.c (.int .i64 0))), .none⟩]) (.seq (.reg [⟨(.some 5), (.call (.c (.fn 77 [] [])) []), .none⟩, ⟨(.some 6), (.mv (.c (.int .i64 0))), .none⟩]) (.seq (.block 0 (.loop (.seq (.reg [⟨(.some 7), (.bin .lss (.t 6) (.c (.int .i64 6))), .none⟩]) (.seq (.cond (.t 7) .skip (.exit 0)) (.seq (.block 1 (.seq (.reg [⟨(.some 8), (.idx 6 2 .true (.t 5) (.t 6)), .none⟩, ⟨(.some 4), (.alloc [.nilf, (.int .i64 0)]), .none⟩, ⟨.none, (.store 2 (.t 4) (.t 8)), .none⟩]) (.seq (.reg [⟨(.some 9), (.fadr 0 (.t 4)), .none⟩, ⟨(.some 10), (.load 1 .false (.t 9)), .none⟩, ⟨(.some 11), (.load 4 .true (.t 1)), .none⟩, ⟨(.some 12), (.call (.t 10) [(.t 11)]), .none⟩, ⟨(.some 13), (.not (.t 12)), .none⟩]) (.cond (.t 13) (.seq (.reg [⟨(.some 14), (.fadr 1 (.t 4)), .none⟩, ⟨(.some 15), (.load 1 .false (.t 14)), .none⟩, ⟨(.some 2), (.mv (.t 15)), .none⟩]) .ret) .skip)))) (.reg [⟨(.some 16), (.bin .add (.t 6) (.c (.int .i64 1))), .none⟩, ⟨(.some 6), (.mv (.t 16)), .none⟩])))))) (.seq (.reg [⟨(.some 2), (.mv (.c (.int .i64 0))), .none⟩]) .ret))))
theorem nc28 : nc Try.prog 28 = some (1, [(.t 2)], gc28) := by kernel_rfl
def gc29 : MC := (.seq (.reg [⟨(.some 4), (.mv (.c (.int .i64 0))), .none⟩]) (.seq (.reg [⟨(.some 5), (.mv (.t 1)), .none⟩, ⟨(.some 6), (.bin .lss (.t 5) (.c (.int .i64 1))), .none⟩]) (.seq (.cond (.t 6) (.seq (.reg [⟨(.some 4), (.mv (.c (.int .i64 0))), .none⟩]) .ret) .skip) (.seq (.reg [⟨(.some 7), (.mv (.t 0)), .none⟩, ⟨(.some 8), (.mv (.t 1)), .none⟩, ⟨(.some 9), (.bin .rem (.t 7) (.t 8)), .none⟩, ⟨(.some 10), (.mv (.t 1)), .none⟩, ⟨(.some 11), (.bin .add (.t 9) (.t 10)), .none⟩, ⟨(.some 12), (.mv (.t 1)), .none⟩, ⟨(.some 13), (.bin .rem (.t 11) (.t 12)), .none⟩, ⟨(.some 4), (.mv (.t 13)), .none⟩]) .ret))))
theorem nc29 : nc Try.prog 29 = some (2, [(.t 4)], gc29) := by kernel_rfl
def gc30 : MC := (.seq (.reg [⟨(.some 1), (.box 4 (.t 0)), .none⟩, ⟨(.some 2), (.mv (.c (.int .i64 0))), .none⟩, ⟨(.some 3), (.mv (.c (.bool .false))), .none⟩]) (.seq (.reg [⟨(.some 4), (.mv (.c (.int .i64 4611686018427387904))), .none⟩]) (.seq (.reg [⟨(.some 7), (.fadr 3 (.t 1)), .none⟩, ⟨(.some 8), (.load 1 .false (.t 7)), .none⟩, ⟨(.some 9), (.len (.t 8)), .none⟩, ⟨(.some 10), (.mv (.c (.int .i64 0))), .none⟩]) (.seq (.block 0 (.loop (.seq (.reg [⟨(.some 11), (.bin .lss (.t 10) (.t 9)), .none⟩]) (.seq (.cond (.t 11) .skip (.exit 0)) (.seq (.block 1 (.seq (.reg [⟨(.some 12), (.iadr 3 (.t 8) (.t 10)), .none⟩, ⟨(.some 13), (.load 3 .true (.t 12)), .none⟩, ⟨(.some 6), (.alloc [(.int .i64 0), (.int .i64 0), (.int .i64 0)]), .none⟩, ⟨.none, (.store 3 (.t 6) (.t 13)), .none⟩]) (.seq (.reg [⟨(.some 14), (.fadr 2 (.t 6)), .none⟩, ⟨(.some 15), (.load 1 .false (.t 14)), .none⟩, ⟨(.some 16), (.bin .lss (.t 15) (.c (.int .i64 0))), .none⟩, ⟨(.some 17), (.mv (.t 16)), .none⟩, ⟨(.some 18), (.fadr 2 (.t 6)), (.some (17, .false))⟩, ⟨(.some 19), (.load 1 .false (.t 18)), (.some (17, .false))⟩, ⟨(.some 20), (.mv (.t 4)), (.some (17, .false))⟩, ⟨(.some 21), (.bin .gtr (.t 19) (.t 20)), (.some (17, .false))⟩, ⟨(.some 22), (.pick (.t 17) (.c (.bool .true)) (.t 21)), .none⟩]) (.seq (.cond (.t 22) (.seq (.reg [⟨(.some 2), (.mv (.c (.int .i64 0))), .none⟩, ⟨(.some 3), (.mv (.c (.bool .false))), .none⟩]) .ret) .skip) (.reg [⟨(.some 23), (.mv (.t 4)), .none⟩, ⟨(.some 24), (.fadr 2 (.t 6)), .none⟩, ⟨(.some 25), (.load 1 .false (.t 24)), .none⟩, ⟨(.some 26), (.bin .sub (.t 23) (.t 25)), .none⟩, ⟨(.some 4), (.mv (.t 26)), .none⟩]))))) (.reg [⟨(.some 27), (.bin .add (.t 10) (.c (.int .i64 1))), .none⟩, ⟨(.some 10), (.mv (.t 27)), .none⟩])))))) (.seq (.reg [⟨(.some 28), (.mv (.t 4)), .none⟩, ⟨(.some 29), (.bin .sub (.c (.int .i64 4611686018427387904)) (.t 28)), .none⟩, ⟨(.some 2), (.mv (.t 29)), .none⟩, ⟨(.some 3), (.mv (.c (.bool .true))), .none⟩]) .ret)))))
theorem nc30 : nc Try.prog 30 = some (1, [(.t 2), (.t 3)], gc30) := by kernel_rfl
def gc31 : MC := (.seq (.reg [⟨(.some 3), (.box 4 (.t 0)), .none⟩, ⟨(.some 6), (.alloc [(.int .i64 0), (.int .i64 0), (.int .i64 0), .nils]), .none⟩]) (.seq (.reg [⟨(.some 11), (.fadr 0 (.t 3)), .none⟩, ⟨(.some 12), (.load 1 .false (.t 11)), .none⟩, ⟨(.some 13), (.mv (.t 1)), .none⟩, ⟨(.some 14), (.bin .sub (.t 13) (.c (.int .i64 1))), .none⟩, ⟨(.some 15), (.call (.c (.fn 29 [] [])) [(.t 12), (.t 14)]), .none⟩, ⟨(.some 16), (.bin .add (.c (.int .i64 2)) (.t 15)), .none⟩, ⟨(.some 17), (.build [(.int .i64 0), (.int .i64 0), (.int .i64 0), .nils] [(0, (1, (.t 16)))]), .none⟩, ⟨(.some 7), (.alloc [(.int .i64 0), (.int .i64 0), (.int .i64 0), .nils]), .none⟩, ⟨.none, (.store 4 (.t 7) (.t 17)), .none⟩]) (.seq (.reg [⟨(.some 18), (.fadr 1 (.t 3)), .none⟩, ⟨(.some 19), (.load 1 .false (.t 18)), .none⟩, ⟨(.some 20), (.fadr 0 (.t 7)), .none⟩, ⟨(.some 21), (.load 1 .false (.t 20)), .none⟩, ⟨(.some 22), (.call (.c (.fn 29 [] [])) [(.t 19), (.t 21)]), .none⟩, ⟨(.some 23), (.fadr 1 (.t 7)), .none⟩, ⟨.none, (.store 1 (.t 23) (.t 22)), .none⟩]) (.seq (.reg [⟨(.some 24), (.fadr 2 (.t 3)), .none⟩, ⟨(.some 25), (.load 1 .false (.t 24)), .none⟩, ⟨(.some 26), (.fadr 0 (.t 7)), .none⟩, ⟨(.some 27), (.load 1 .false (.t 26)), .none⟩, ⟨(.some 28), (.call (.c (.fn 29 [] [])) [(.t 25), (.t 27)]), .none⟩, ⟨(.some 29), (.fadr 2 (.t 7)), .none⟩, ⟨.none, (.store 1 (.t 29) (.t 28)), .none⟩]) (.seq (.reg [⟨(.some 30), (.fadr 1 (.t 7)), .none⟩, ⟨(.some 31), (.load 1 .false (.t 30)), .none⟩, ⟨(.some 32), (.fadr 2 (.t 7)), .none⟩, ⟨(.some 33), (.load 1 .false (.t 32)), .none⟩, ⟨(.some 34), (.bin .eql (.t 31) (.t 33)), .none⟩]) (.seq (.cond (.t 34) (.reg [⟨(.some 35), (.fadr 1 (.t 7)), .none⟩, ⟨(.some 36), (.load 1 .false (.t 35)), .none⟩, ⟨(.some 37), (.bin .add (.t 36) (.c (.int .i64 1))), .none⟩, ⟨(.some 38), (.fadr 0 (.t 7)), .none⟩, ⟨(.some 39), (.load 1 .false (.t 38)), .none⟩, ⟨(.some 40), (.bin .rem (.t 37) (.t 39)), .none⟩, ⟨(.some 41), (.fadr 2 (.t 7)), .none⟩, ⟨.none, (.store 1 (.t 41) (.t 40)), .none⟩]) .skip) (.seq (.reg [⟨(.some 42), (.fadr 3 (.t 3)), .none⟩, ⟨(.some 43), (.load 1 .false (.t 42)), .none⟩, ⟨(.some 44), (.fadr 3 (.t 3)), .none⟩, ⟨(.some 45), (.load 1 .false (.t 44)), .none⟩, ⟨(.some 46), (.len (.t 45)), .none⟩, ⟨(.some 47), (.mv (.t 2)), .none⟩, ⟨(.some 48), (.mn (.t 46) (.t 47)), .none⟩, ⟨(.some 49), (.slc 3 (.t 43) .none (.some (.t 48))), .none⟩, ⟨(.some 50), (.len (.t 49)), .none⟩, ⟨(.some 51), (.mv (.c (.int .i64 0))), .none⟩]) (.seq (.block 0 (.loop (.seq (.reg [⟨(.some 52), (.bin .lss (.t 51) (.t 50)), .none⟩]) (.seq (.cond (.t 52) .skip (.exit 0)) (.seq (.block 1 (.seq (.reg [⟨(.some 53), (.iadr 3 (.t 49) (.t 51)), .none⟩, ⟨(.some 54), (.load 3 .true (.t 53)), .none⟩, ⟨(.some 9), (.alloc [(.int .i64 0), (.int .i64 0), (.int .i64 0)]), .none⟩, ⟨.none, (.store 3 (.t 9) (.t 54)), .none⟩]) (.seq (.reg [⟨(.some 55), (.fadr 2 (.t 9)), .none⟩, ⟨(.some 56), (.load 1 .false (.t 55)), .none⟩, ⟨(.some 10), (.mv (.t 56)), .none⟩]) (.seq (.reg [⟨(.some 57), (.mv (.t 10)), .none⟩, ⟨(.some 58), (.bin .lss (.t 57) (.c (.int .i64 0))), .none⟩]) (.seq (.cond (.t 58) (.reg [⟨(.some 59), (.mv (.t 10)), .none⟩, ⟨(.some 60), (.bin .add (.t 59) (.c (.int .i64 1))), .none⟩, ⟨(.some 61), (.neg (.t 60)), .none⟩, ⟨(.some 10), (.mv (.t 61)), .none⟩]) .skip) (.dreg 1 [(.plain, ⟨(.some 62), (.fadr 3 (.t 7)), .none⟩), (.plain, ⟨(.some 63), (.load 1 .false (.t 62)), .none⟩), (.plain, ⟨(.some 64), (.fadr 0 (.t 9)), .none⟩), (.plain, ⟨(.some 65), (.load 1 .false (.t 64)), .none⟩), (.plain, ⟨(.some 66), (.fadr 0 (.t 7)), .none⟩), (.plain, ⟨(.some 67), (.load 1 .false (.t 66)), .none⟩), ((.pcall []), ⟨(.some 68), (.call (.c (.fn 29 [] [])) [(.t 65), (.t 67)]), .none⟩), (.plain, ⟨(.some 69), (.fadr 1 (.t 9)), .none⟩), (.plain, ⟨(.some 70), (.load 1 .false (.t 69)), .none⟩), (.plain, ⟨(.some 71), (.fadr 0 (.t 7)), .none⟩), (.plain, ⟨(.some 72), (.load 1 .false (.t 71)), .none⟩), ((.pcall []), ⟨(.some 73), (.call (.c (.fn 29 [] [])) [(.t 70), (.t 72)]), .none⟩), (.plain, ⟨(.some 74), (.mv (.t 10)), .none⟩), (.plain, ⟨(.some 75), (.bin .rem (.t 74) (.c (.int .i64 1125899906842624))), .none⟩), (.plain, ⟨(.some 76), (.build [(.int .i64 0), (.int .i64 0), (.int .i64 0)] [(0, (1, (.t 68))), (1, (1, (.t 73))), (2, (1, (.t 75)))]), .none⟩), ((.hole 0), ⟨(.some 77), (.bslice 1 3 [(.int .i64 0), (.int .i64 0), (.int .i64 0)] [(0, (.t 76))]), .none⟩), (.plain, ⟨(.some 78), (.append 3 24 (.t 63) (.t 77)), .none⟩), (.plain, ⟨(.some 79), (.fadr 3 (.t 7)), .none⟩), (.plain, ⟨.none, (.store 1 (.t 79) (.t 78)), .none⟩)] [(.nh (.t 62) 0), (.lt (.t 69)), (.lt (.t 71))])))))) (.reg [⟨(.some 80), (.bin .add (.t 51) (.c (.int .i64 1))), .none⟩, ⟨(.some 51), (.mv (.t 80)), .none⟩])))))) (.seq (.reg [⟨(.some 81), (.load 4 .true (.t 7)), .none⟩, ⟨.none, (.store 4 (.t 6) (.t 81)), .none⟩]) .ret)))))))))
theorem nc31 : nc Try.prog 31 = some (3, [(.c 6 4 .true)], gc31) := by kernel_rfl
def gc41 : MC := (.seq (.reg [⟨(.some 2), (.box 4 (.t 0)), .none⟩, ⟨(.some 3), (.box 4 (.t 1)), .none⟩, ⟨(.some 4), (.mv (.c (.bool .false))), .none⟩]) (.seq (.reg [⟨(.some 6), (.fadr 0 (.t 2)), .none⟩, ⟨(.some 7), (.load 1 .false (.t 6)), .none⟩, ⟨(.some 8), (.fadr 0 (.t 3)), .none⟩, ⟨(.some 9), (.load 1 .false (.t 8)), .none⟩, ⟨(.some 10), (.bin .neq (.t 7) (.t 9)), .none⟩, ⟨(.some 11), (.mv (.t 10)), .none⟩, ⟨(.some 12), (.fadr 1 (.t 2)), (.some (11, .false))⟩, ⟨(.some 13), (.load 1 .false (.t 12)), (.some (11, .false))⟩, ⟨(.some 14), (.fadr 1 (.t 3)), (.some (11, .false))⟩, ⟨(.some 15), (.load 1 .false (.t 14)), (.some (11, .false))⟩, ⟨(.some 16), (.bin .neq (.t 13) (.t 15)), (.some (11, .false))⟩, ⟨(.some 17), (.pick (.t 11) (.c (.bool .true)) (.t 16)), .none⟩, ⟨(.some 18), (.mv (.t 17)), .none⟩, ⟨(.some 19), (.fadr 2 (.t 2)), (.some (18, .false))⟩, ⟨(.some 20), (.load 1 .false (.t 19)), (.some (18, .false))⟩, ⟨(.some 21), (.fadr 2 (.t 3)), (.some (18, .false))⟩, ⟨(.some 22), (.load 1 .false (.t 21)), (.some (18, .false))⟩, ⟨(.some 23), (.bin .neq (.t 20) (.t 22)), (.some (18, .false))⟩, ⟨(.some 24), (.pick (.t 18) (.c (.bool .true)) (.t 23)), .none⟩, ⟨(.some 25), (.mv (.t 24)), .none⟩, ⟨(.some 26), (.fadr 3 (.t 2)), (.some (25, .false))⟩, ⟨(.some 27), (.load 1 .false (.t 26)), (.some (25, .false))⟩, ⟨(.some 28), (.len (.t 27)), (.some (25, .false))⟩, ⟨(.some 29), (.fadr 3 (.t 3)), (.some (25, .false))⟩, ⟨(.some 30), (.load 1 .false (.t 29)), (.some (25, .false))⟩, ⟨(.some 31), (.len (.t 30)), (.some (25, .false))⟩, ⟨(.some 32), (.bin .neq (.t 28) (.t 31)), (.some (25, .false))⟩, ⟨(.some 33), (.pick (.t 25) (.c (.bool .true)) (.t 32)), .none⟩]) (.seq (.cond (.t 33) (.seq (.reg [⟨(.some 4), (.mv (.c (.bool .false))), .none⟩]) .ret) .skip) (.seq (.reg [⟨(.some 34), (.fadr 3 (.t 2)), .none⟩, ⟨(.some 35), (.load 1 .false (.t 34)), .none⟩, ⟨(.some 36), (.len (.t 35)), .none⟩, ⟨(.some 37), (.mv (.c (.int .i64 0))), .none⟩]) (.seq (.block 0 (.loop (.seq (.reg [⟨(.some 38), (.bin .lss (.t 37) (.t 36)), .none⟩]) (.seq (.cond (.t 38) .skip (.exit 0)) (.seq (.block 1 (.seq (.reg [⟨(.some 39), (.mv (.t 37)), .none⟩, ⟨(.some 5), (.mv (.t 39)), .none⟩]) (.seq (.dreg 0 [(.plain, ⟨(.some 40), (.fadr 3 (.t 2)), .none⟩), (.plain, ⟨(.some 41), (.load 1 .false (.t 40)), .none⟩), (.plain, ⟨(.some 42), (.mv (.t 5)), .none⟩), (.plain, ⟨(.some 43), (.iadr 3 (.t 41) (.t 42)), .none⟩), (.plain, ⟨(.some 44), (.load 3 .true (.t 43)), .none⟩), (.plain, ⟨(.some 45), (.fadr 3 (.t 3)), .none⟩), (.plain, ⟨(.some 46), (.load 1 .false (.t 45)), .none⟩), (.plain, ⟨(.some 47), (.mv (.t 5)), .none⟩), (.plain, ⟨(.some 48), (.iadr 3 (.t 46) (.t 47)), .none⟩), (.plain, ⟨(.some 49), (.load 3 .true (.t 48)), .none⟩), (.plain, ⟨(.some 50), (.eq .true (.agg [.true, .true, .true]) (.t 44) (.t 49)), .none⟩)] []) (.cond (.t 50) (.seq (.reg [⟨(.some 4), (.mv (.c (.bool .false))), .none⟩]) .ret) .skip)))) (.reg [⟨(.some 51), (.bin .add (.t 37) (.c (.int .i64 1))), .none⟩, ⟨(.some 37), (.mv (.t 51)), .none⟩])))))) (.seq (.reg [⟨(.some 4), (.mv (.c (.bool .true))), .none⟩]) .ret))))))
theorem nc41 : nc Try.prog 41 = some (2, [(.t 4)], gc41) := by kernel_rfl
def gc42 : MC := (.seq (.reg [⟨(.some 2), (.box 4 (.t 0)), .none⟩, ⟨(.some 3), (.box 4 (.t 1)), .none⟩, ⟨(.some 4), (.mv (.c (.bool .false))), .none⟩]) (.seq (.reg [⟨(.some 5), (.fadr 0 (.t 2)), .none⟩, ⟨(.some 6), (.load 1 .false (.t 5)), .none⟩, ⟨(.some 7), (.fadr 0 (.t 3)), .none⟩, ⟨(.some 8), (.load 1 .false (.t 7)), .none⟩, ⟨(.some 9), (.bin .eql (.t 6) (.t 8)), .none⟩, ⟨(.some 10), (.mv (.t 9)), .none⟩, ⟨(.some 11), (.fadr 1 (.t 2)), (.some (10, .true))⟩, ⟨(.some 12), (.load 1 .false (.t 11)), (.some (10, .true))⟩, ⟨(.some 13), (.fadr 1 (.t 3)), (.some (10, .true))⟩, ⟨(.some 14), (.load 1 .false (.t 13)), (.some (10, .true))⟩, ⟨(.some 15), (.bin .eql (.t 12) (.t 14)), (.some (10, .true))⟩, ⟨(.some 16), (.pick (.t 10) (.t 15) (.c (.bool .false))), .none⟩, ⟨(.some 17), (.mv (.t 16)), .none⟩, ⟨(.some 18), (.fadr 2 (.t 2)), (.some (17, .true))⟩, ⟨(.some 19), (.load 1 .false (.t 18)), (.some (17, .true))⟩, ⟨(.some 20), (.fadr 2 (.t 3)), (.some (17, .true))⟩, ⟨(.some 21), (.load 1 .false (.t 20)), (.some (17, .true))⟩, ⟨(.some 22), (.bin .eql (.t 19) (.t 21)), (.some (17, .true))⟩, ⟨(.some 23), (.pick (.t 17) (.t 22) (.c (.bool .false))), .none⟩, ⟨(.some 24), (.mv (.t 23)), .none⟩, ⟨(.some 25), (.fadr 3 (.t 2)), (.some (24, .true))⟩, ⟨(.some 26), (.load 1 .false (.t 25)), (.some (24, .true))⟩, ⟨(.some 27), (.fadr 3 (.t 3)), (.some (24, .true))⟩, ⟨(.some 28), (.load 1 .false (.t 27)), (.some (24, .true))⟩, ⟨(.some 29), (.call (.c (.fn 87 [] [])) [(.t 26), (.t 28)]), (.some (24, .true))⟩, ⟨(.some 30), (.pick (.t 24) (.t 29) (.c (.bool .false))), .none⟩, ⟨(.some 4), (.mv (.t 30)), .none⟩]) .ret))
theorem nc42 : nc Try.prog 42 = some (2, [(.t 4)], gc42) := by kernel_rfl
def gc76 : MC := (.seq (.reg [⟨(.some 2), (.mv (.c .nils)), .none⟩]) (.seq (.reg [⟨(.some 3), (.mv (.t 0)), .none⟩, ⟨(.some 4), (.eq .false .sl (.t 3) (.c .nils)), .none⟩]) (.seq (.cond (.t 4) (.seq (.reg [⟨(.some 2), (.mv (.c .nils)), .none⟩]) .ret) .skip) (.seq (.reg [⟨(.some 5), (.bslice 0 3 [] []), .none⟩, ⟨(.some 6), (.mv (.t 0)), .none⟩, ⟨(.some 7), (.append 3 24 (.t 5) (.t 6)), .none⟩, ⟨(.some 2), (.mv (.t 7)), .none⟩]) .ret))))
theorem nc76 : nc Try.prog 76 = some (1, [(.t 2)], gc76) := by kernel_rfl
def gc77 : MC := (.seq (.reg [⟨(.some 0), (.alloc [.nilf, (.int .i64 0), .nilf, (.int .i64 0), .nilf, (.int .i64 0), .nilf, (.int .i64 0), .nilf, (.int .i64 0), .nilf, (.int .i64 0)]), .none⟩]) (.seq (.reg [⟨(.some 1), (.build [.nilf, (.int .i64 0)] [(0, (1, (.c (.fn 105 [] [])))), (1, (1, (.c (.int .i64 10))))]), .none⟩, ⟨(.some 2), (.build [.nilf, (.int .i64 0)] [(0, (1, (.c (.fn 106 [] [])))), (1, (1, (.c (.int .i64 11))))]), .none⟩, ⟨(.some 3), (.build [.nilf, (.int .i64 0)] [(0, (1, (.c (.fn 107 [] [])))), (1, (1, (.c (.int .i64 12))))]), .none⟩, ⟨(.some 4), (.call (.c (.fn 109 [] [])) [(.c (.fn 110 [] []))]), .none⟩, ⟨(.some 5), (.build [.nilf, (.int .i64 0)] [(0, (1, (.t 4))), (1, (1, (.c (.int .i64 13))))]), .none⟩, ⟨(.some 6), (.call (.c (.fn 109 [] [])) [(.c (.fn 111 [] []))]), .none⟩, ⟨(.some 7), (.build [.nilf, (.int .i64 0)] [(0, (1, (.t 6))), (1, (1, (.c (.int .i64 14))))]), .none⟩, ⟨(.some 8), (.build [.nilf, (.int .i64 0)] [(0, (1, (.c (.fn 112 [] [])))), (1, (1, (.c (.int .i64 15))))]), .none⟩, ⟨(.some 9), (.build [.nilf, (.int .i64 0), .nilf, (.int .i64 0), .nilf, (.int .i64 0), .nilf, (.int .i64 0), .nilf, (.int .i64 0), .nilf, (.int .i64 0)] [(0, (2, (.t 1))), (2, (2, (.t 2))), (4, (2, (.t 3))), (6, (2, (.t 5))), (8, (2, (.t 7))), (10, (2, (.t 8)))]), .none⟩, ⟨.none, (.store 12 (.t 0) (.t 9)), .none⟩]) .ret))
theorem nc77 : nc Try.prog 77 = some (0, [(.c 0 12 .true)], gc77) := by kernel_rfl
def gc87 : MC := (.seq (.reg [⟨(.some 4), (.mv (.c (.bool .false))), .none⟩]) (.seq (.reg [⟨(.some 6), (.mv (.t 0)), .none⟩, ⟨(.some 7), (.len (.t 6)), .none⟩, ⟨(.some 8), (.mv (.t 1)), .none⟩, ⟨(.some 9), (.len (.t 8)), .none⟩, ⟨(.some 10), (.bin .neq (.t 7) (.t 9)), .none⟩]) (.seq (.cond (.t 10) (.seq (.reg [⟨(.some 4), (.mv (.c (.bool .false))), .none⟩]) .ret) .skip) (.seq (.reg [⟨(.some 11), (.mv (.t 0)), .none⟩, ⟨(.some 12), (.len (.t 11)), .none⟩, ⟨(.some 13), (.mv (.c (.int .i64 0))), .none⟩]) (.seq (.block 0 (.loop (.seq (.reg [⟨(.some 14), (.bin .lss (.t 13) (.t 12)), .none⟩]) (.seq (.cond (.t 14) .skip (.exit 0)) (.seq (.block 1 (.seq (.reg [⟨(.some 15), (.mv (.t 13)), .none⟩, ⟨(.some 5), (.mv (.t 15)), .none⟩]) (.seq (.dreg 0 [(.plain, ⟨(.some 16), (.mv (.t 0)), .none⟩), (.plain, ⟨(.some 17), (.mv (.t 5)), .none⟩), (.plain, ⟨(.some 18), (.iadr 3 (.t 16) (.t 17)), .none⟩), (.plain, ⟨(.some 19), (.load 3 .true (.t 18)), .none⟩), (.plain, ⟨(.some 20), (.mv (.t 1)), .none⟩), (.plain, ⟨(.some 21), (.mv (.t 5)), .none⟩), (.plain, ⟨(.some 22), (.iadr 3 (.t 20) (.t 21)), .none⟩), (.plain, ⟨(.some 23), (.load 3 .true (.t 22)), .none⟩), (.plain, ⟨(.some 24), (.eq .true (.agg [.true, .true, .true]) (.t 19) (.t 23)), .none⟩)] []) (.cond (.t 24) (.seq (.reg [⟨(.some 4), (.mv (.c (.bool .false))), .none⟩]) .ret) .skip)))) (.reg [⟨(.some 25), (.bin .add (.t 13) (.c (.int .i64 1))), .none⟩, ⟨(.some 13), (.mv (.t 25)), .none⟩])))))) (.seq (.reg [⟨(.some 4), (.mv (.c (.bool .true))), .none⟩]) .ret))))))
theorem nc87 : nc Try.prog 87 = some (2, [(.t 4)], gc87) := by kernel_rfl
def gc105 : MC := (.seq (.reg [⟨(.some 1), (.box 4 (.t 0)), .none⟩, ⟨(.some 2), (.mv (.c (.bool .false))), .none⟩]) (.seq (.reg [⟨(.some 3), (.fadr 0 (.t 1)), .none⟩, ⟨(.some 4), (.load 1 .false (.t 3)), .none⟩, ⟨(.some 5), (.bin .geq (.t 4) (.c (.int .i64 2))), .none⟩, ⟨(.some 6), (.mv (.t 5)), .none⟩, ⟨(.some 7), (.fadr 0 (.t 1)), (.some (6, .true))⟩, ⟨(.some 8), (.load 1 .false (.t 7)), (.some (6, .true))⟩, ⟨(.some 9), (.bin .leq (.t 8) (.c (.int .i64 4096))), (.some (6, .true))⟩, ⟨(.some 10), (.pick (.t 6) (.t 9) (.c (.bool .false))), .none⟩, ⟨(.some 2), (.mv (.t 10)), .none⟩]) .ret))
theorem nc105 : nc Try.prog 105 = some (1, [(.t 2)], gc105) := by kernel_rfl
def gc106 : MC := (.seq (.reg [⟨(.some 1), (.box 4 (.t 0)), .none⟩, ⟨(.some 2), (.mv (.c (.bool .false))), .none⟩]) (.seq (.reg [⟨(.some 3), (.fadr 3 (.t 1)), .none⟩, ⟨(.some 4), (.load 1 .false (.t 3)), .none⟩, ⟨(.some 5), (.len (.t 4)), .none⟩, ⟨(.some 6), (.bin .leq (.t 5) (.c (.int .i64 16384))), .none⟩, ⟨(.some 2), (.mv (.t 6)), .none⟩]) .ret))
theorem nc106 : nc Try.prog 106 = some (1, [(.t 2)], gc106) := by kernel_rfl
def gc107 : MC := (.seq (.reg [⟨(.some 1), (.box 4 (.t 0)), .none⟩, ⟨(.some 2), (.mv (.c (.bool .false))), .none⟩]) (.seq (.reg [⟨(.some 3), (.load 4 .true (.t 1)), .none⟩, ⟨(.some 4), (.fadr 1 (.t 1)), .none⟩, ⟨(.some 5), (.load 1 .false (.t 4)), .none⟩, ⟨(.some 6), (.call (.c (.fn 108 [] [])) [(.t 3), (.t 5)]), .none⟩, ⟨(.some 7), (.mv (.t 6)), .none⟩, ⟨(.some 8), (.load 4 .true (.t 1)), (.some (7, .true))⟩, ⟨(.some 9), (.fadr 2 (.t 1)), (.some (7, .true))⟩, ⟨(.some 10), (.load 1 .false (.t 9)), (.some (7, .true))⟩, ⟨(.some 11), (.call (.c (.fn 108 [] [])) [(.t 8), (.t 10)]), (.some (7, .true))⟩, ⟨(.some 12), (.pick (.t 7) (.t 11) (.c (.bool .false))), .none⟩, ⟨(.some 13), (.mv (.t 12)), .none⟩, ⟨(.some 14), (.fadr 1 (.t 1)), (.some (13, .true))⟩, ⟨(.some 15), (.load 1 .false (.t 14)), (.some (13, .true))⟩, ⟨(.some 16), (.fadr 2 (.t 1)), (.some (13, .true))⟩, ⟨(.some 17), (.load 1 .false (.t 16)), (.some (13, .true))⟩, ⟨(.some 18), (.bin .neq (.t 15) (.t 17)), (.some (13, .true))⟩, ⟨(.some 19), (.pick (.t 13) (.t 18) (.c (.bool .false))), .none⟩, ⟨(.some 2), (.mv (.t 19)), .none⟩]) .ret))
theorem nc107 : nc Try.prog 107 = some (1, [(.t 2)], gc107) := by kernel_rfl
def gc108 : MC := (.seq (.reg [⟨(.some 2), (.box 4 (.t 0)), .none⟩, ⟨(.some 4), (.mv (.c (.bool .false))), .none⟩]) (.seq (.reg [⟨(.some 5), (.mv (.t 1)), .none⟩, ⟨(.some 6), (.bin .geq (.t 5) (.c (.int .i64 0))), .none⟩, ⟨(.some 7), (.mv (.t 6)), .none⟩, ⟨(.some 8), (.mv (.t 1)), (.some (7, .true))⟩, ⟨(.some 9), (.fadr 0 (.t 2)), (.some (7, .true))⟩, ⟨(.some 10), (.load 1 .false (.t 9)), (.some (7, .true))⟩, ⟨(.some 11), (.bin .lss (.t 8) (.t 10)), (.some (7, .true))⟩, ⟨(.some 12), (.pick (.t 7) (.t 11) (.c (.bool .false))), .none⟩, ⟨(.some 4), (.mv (.t 12)), .none⟩]) .ret))
theorem nc108 : nc Try.prog 108 = some (2, [(.t 4)], gc108) := by kernel_rfl
def gc109 : MC := (.seq (.reg [⟨(.some 1), (.box 1 (.t 0)), .none⟩, ⟨(.some 2), (.mv (.c .nilf)), .none⟩]) (.seq (.reg [⟨(.some 3), (.mkfn 130 [] [(.t 1)]), .none⟩, ⟨(.some 2), (.mv (.t 3)), .none⟩]) .ret))
theorem nc109 : nc Try.prog 109 = some (1, [(.t 2)], gc109) := by kernel_rfl
def gc110 : MC := (.seq (.reg [⟨(.some 2), (.box 4 (.t 0)), .none⟩, ⟨(.some 3), (.box 3 (.t 1)), .none⟩, ⟨(.some 4), (.mv (.c (.bool .false))), .none⟩]) (.seq (.reg [⟨(.some 5), (.load 4 .true (.t 2)), .none⟩, ⟨(.some 6), (.fadr 0 (.t 3)), .none⟩, ⟨(.some 7), (.load 1 .false (.t 6)), .none⟩, ⟨(.some 8), (.call (.c (.fn 108 [] [])) [(.t 5), (.t 7)]), .none⟩, ⟨(.some 9), (.mv (.t 8)), .none⟩, ⟨(.some 10), (.load 4 .true (.t 2)), (.some (9, .true))⟩, ⟨(.some 11), (.fadr 1 (.t 3)), (.some (9, .true))⟩, ⟨(.some 12), (.load 1 .false (.t 11)), (.some (9, .true))⟩, ⟨(.some 13), (.call (.c (.fn 108 [] [])) [(.t 10), (.t 12)]), (.some (9, .true))⟩, ⟨(.some 14), (.pick (.t 9) (.t 13) (.c (.bool .false))), .none⟩, ⟨(.some 4), (.mv (.t 14)), .none⟩]) .ret))
theorem nc110 : nc Try.prog 110 = some (2, [(.t 4)], gc110) := by kernel_rfl
def gc111 : MC := (.seq (.reg [⟨(.some 2), (.box 4 (.t 0)), .none⟩, ⟨(.some 3), (.box 3 (.t 1)), .none⟩, ⟨(.some 4), (.mv (.c (.bool .false))), .none⟩]) (.seq (.reg [⟨(.some 5), (.fadr 2 (.t 3)), .none⟩, ⟨(.some 6), (.load 1 .false (.t 5)), .none⟩, ⟨(.some 7), (.bin .geq (.t 6) (.c (.int .i64 0))), .none⟩, ⟨(.some 4), (.mv (.t 7)), .none⟩]) .ret))
theorem nc111 : nc Try.prog 111 = some (2, [(.t 4)], gc111) := by kernel_rfl
def gc112 : MC := (.seq (.reg [⟨(.some 1), (.box 4 (.t 0)), .none⟩, ⟨(.some 2), (.mv (.c (.bool .false))), .none⟩]) (.seq (.reg [⟨(.some 6), (.load 4 .true (.t 1)), .none⟩, ⟨(.some 7), (.call (.c (.fn 30 [] [])) [(.t 6)]), .none⟩, ⟨(.some 5), (.mv (.t 7)), .none⟩, ⟨(.some 8), (.ext (.t 5) 0), .none⟩, ⟨(.some 9), (.ext (.t 5) 1), .none⟩, ⟨(.some 3), (.mv (.t 8)), .none⟩, ⟨(.some 4), (.mv (.t 9)), .none⟩]) (.seq (.reg [⟨(.some 10), (.mv (.t 4)), .none⟩, ⟨(.some 2), (.mv (.t 10)), .none⟩]) .ret)))
theorem nc112 : nc Try.prog 112 = some (1, [(.t 2)], gc112) := by kernel_rfl
def gc130 : MC := (.seq (.reg [⟨(.some 2), (.box 4 (.t 0)), .none⟩, ⟨(.some 3), (.mv (.c (.bool .false))), .none⟩]) (.seq (.reg [⟨(.some 4), (.fadr 3 (.t 2)), .none⟩, ⟨(.some 5), (.load 1 .false (.t 4)), .none⟩, ⟨(.some 6), (.mkfn 132 [] [(.t 1), (.t 2)]), .none⟩, ⟨(.some 7), (.call (.c (.fn 131 [] [])) [(.t 5), (.t 6)]), .none⟩, ⟨(.some 8), (.not (.t 7)), .none⟩, ⟨(.some 3), (.mv (.t 8)), .none⟩]) .ret))
theorem nc130 : nc Try.prog 130 = some (2, [(.t 3)], gc130) := by kernel_rfl
def gc131 : MC := (.seq (.reg [⟨(.some 4), (.mv (.c (.bool .false))), .none⟩]) (.seq (.reg [⟨(.some 5), (.mv (.t 0)), .none⟩, ⟨(.some 6), (.mv (.t 1)), .none⟩, ⟨(.some 7), (.call (.c (.fn 138 [] [])) [(.t 5), (.t 6)]), .none⟩, ⟨(.some 8), (.bin .geq (.t 7) (.c (.int .i64 0))), .none⟩, ⟨(.some 4), (.mv (.t 8)), .none⟩]) .ret))
theorem nc131 : nc Try.prog 131 = some (2, [(.t 4)], gc131) := by kernel_rfl
def gc132 : MC := (.seq (.reg [⟨(.some 3), (.box 3 (.t 0)), .none⟩, ⟨(.some 4), (.mv (.c (.bool .false))), .none⟩]) (.seq (.reg [⟨(.some 5), (.load 1 .false (.t 1)), .none⟩, ⟨(.some 6), (.load 4 .true (.t 2)), .none⟩, ⟨(.some 7), (.load 3 .true (.t 3)), .none⟩, ⟨(.some 8), (.call (.t 5) [(.t 6), (.t 7)]), .none⟩, ⟨(.some 9), (.not (.t 8)), .none⟩, ⟨(.some 4), (.mv (.t 9)), .none⟩]) .ret))
theorem nc132 : nc Try.prog 132 = some (3, [(.t 4)], gc132) := by kernel_rfl
def gc138 : MC := (.seq (.reg [⟨(.some 4), (.mv (.c (.int .i64 0))), .none⟩]) (.seq (.reg [⟨(.some 6), (.mv (.t 0)), .none⟩, ⟨(.some 7), (.len (.t 6)), .none⟩, ⟨(.some 8), (.mv (.c (.int .i64 0))), .none⟩]) (.seq (.block 0 (.loop (.seq (.reg [⟨(.some 9), (.bin .lss (.t 8) (.t 7)), .none⟩]) (.seq (.cond (.t 9) .skip (.exit 0)) (.seq (.block 1 (.seq (.reg [⟨(.some 10), (.mv (.t 8)), .none⟩, ⟨(.some 5), (.mv (.t 10)), .none⟩]) (.seq (.reg [⟨(.some 11), (.mv (.t 1)), .none⟩, ⟨(.some 12), (.mv (.t 0)), .none⟩, ⟨(.some 13), (.mv (.t 5)), .none⟩, ⟨(.some 14), (.iadr 3 (.t 12) (.t 13)), .none⟩, ⟨(.some 15), (.load 3 .true (.t 14)), .none⟩, ⟨(.some 16), (.call (.t 11) [(.t 15)]), .none⟩]) (.cond (.t 16) (.seq (.reg [⟨(.some 17), (.mv (.t 5)), .none⟩, ⟨(.some 4), (.mv (.t 17)), .none⟩]) .ret) .skip)))) (.reg [⟨(.some 18), (.bin .add (.t 8) (.c (.int .i64 1))), .none⟩, ⟨(.some 8), (.mv (.t 18)), .none⟩])))))) (.seq (.reg [⟨(.some 4), (.mv (.c (.int .i64 (-1)))), .none⟩]) .ret))))
theorem nc138 : nc Try.prog 138 = some (2, [(.t 4)], gc138) := by kernel_rfl
end Go.Proofs.Ytpojdgeginigjaa
/- Nets: what may be. -/
set_option linter.unusedSimpArgs false
set_option linter.unusedVariables false
namespace Go.Proofs.Ytpojdgeginigjaa
open Go Go.Ar
set_option maxRecDepth 100000

theorem call_E {g n : Nat} {rs : List RV} {gc : MC} (hg : awk.contains g = false) (hC : nc Try.prog g = some (n, rs, gc)) {args : List V} (hl : args.length = n) {H : Heap} {Q : V → Heap → Prop}
    (h : WP E gc ⟨args0 args, H⟩ fun e s' => (∀ i, e ≠ .exit i) ∧ ∃ vs, resL s'.τ s'.H rs = some vs ∧ Q (pack vs) s'.H) : ∃ v H', callL E (.f g) args H = some (v, H') ∧ Q v H' := call_N hg hC hl h
theorem call_yes {k : Nat} (hk : awk.contains k = true) {H : Heap} : callL E (.f k) [] H = some (.bool true, H) := call_yesL hk

structure Net where
  N : Int
  S : Int
  T : Int
  arcs : List Ar.Arc
def NV (n : Net) (a : V) : V := .agg [.int .i64 n.N, .int .i64 n.S, .int .i64 n.T, a]
def nbox (n : Net) (a : V) : Blk := .cells [.int .i64 n.N, .int .i64 n.S, .int .i64 n.T, a] .ex

theorem pc_vertex (n : Net) (a : V) (v : Int) (H : Heap) : Pc E 108 [NV n a, .int .i64 v] H (.bool (decide (0 ≤ v) && decide (v < n.N))) := Pc.mk fun G => by
  refine call_E rfl nc108 rfl ?_
  unfold gc108 NV
  by_cases h : 0 ≤ v
  · refine wa_sr ⟨_, by simp; rfl, ?_⟩
    refine wa_sr ⟨_, by simp -implicitDefEqProofs [h]; rfl, ?_⟩
    exact wa_ret ⟨by simp, _, by simp; rfl, by simp [h], _, by simp; rfl⟩
  · refine wa_sr ⟨_, by simp; rfl, ?_⟩
    refine wa_sr ⟨_, by simp -implicitDefEqProofs [h]; rfl, ?_⟩
    exact wa_ret ⟨by simp, _, by simp; rfl, by simp [h], _, by simp; rfl⟩

def okN (n : Net) : Bool := decide (2 ≤ n.N) && decide (n.N ≤ 4096)
theorem pc_r1 (n : Net) (a : V) (H : Heap) : Pc E 105 [NV n a] H (.bool (okN n)) := Pc.mk fun G => by
  refine call_E rfl nc105 rfl ?_
  unfold gc105 NV okN
  by_cases h : 2 ≤ n.N
  · refine wa_sr ⟨_, by simp; rfl, ?_⟩
    refine wa_sr ⟨_, by simp -implicitDefEqProofs [h]; rfl, ?_⟩
    exact wa_ret ⟨by simp, _, by simp; rfl, by simp [h], _, by simp; rfl⟩
  · refine wa_sr ⟨_, by simp; rfl, ?_⟩
    refine wa_sr ⟨_, by simp -implicitDefEqProofs [h]; rfl, ?_⟩
    exact wa_ret ⟨by simp, _, by simp; rfl, by simp [h], _, by simp; rfl⟩

def okM (n : Net) : Bool := decide (n.arcs.length ≤ 16384)
theorem pc_r2 {n : Net} {a : V} {H : Heap} (h : AL H a n.arcs) : Pc E 106 [NV n a] H (.bool (okM n)) := Pc.mk fun G => by
  refine call_E rfl nc106 rfl ?_
  unfold gc106 NV okM
  have hl : lenOf a = some n.arcs.length := Rw.len h
  refine wa_sr ⟨_, by simp [len_cells hl]; rfl, ?_⟩
  refine wa_sr ⟨_, by simp -implicitDefEqProofs [hl]; rfl, ?_⟩
  exact wa_ret ⟨by simp, _, by simp; rfl, by simp; omega, _, by simp; rfl⟩

def vtx (n : Net) (v : Int) : Bool := decide (0 ≤ v) && decide (v < n.N)
def okE (n : Net) : Bool := vtx n n.S && vtx n n.T && decide (n.S ≠ n.T)
theorem pc_r3 (n : Net) (a : V) (H : Heap) : Pc E 107 [NV n a] H (.bool (okE n)) := Pc.mk fun G => by
  refine call_E rfl nc107 rfl ?_
  unfold gc107 okE
  obtain ⟨f, hf⟩ := pc_vertex n a n.S H
  obtain ⟨f2, hf2⟩ := pc_vertex n a n.T H
  change ∀ G, _ = some (V.bool (vtx n n.S), _) at hf
  change ∀ G, _ = some (V.bool (vtx n n.T), _) at hf2
  unfold NV at hf hf2 ⊢
  refine wa_sr ⟨_, by simp; rfl, ?_⟩
  cases h1 : vtx n n.S
  · rw [h1] at hf
    refine wa_sr ⟨_, by simp -implicitDefEqProofs [hf]; rfl, ?_⟩
    exact wa_ret ⟨by simp, _, by simp; rfl, by simp, _, by simp; rfl⟩
  · rw [h1] at hf
    cases h2 : vtx n n.T
    · rw [h2] at hf2
      refine wa_sr ⟨_, by simp -implicitDefEqProofs [hf, hf2]; rfl, ?_⟩
      exact wa_ret ⟨by simp, _, by simp; rfl, by simp, _, by simp; rfl⟩
    · rw [h2] at hf2
      refine wa_sr ⟨_, by simp -implicitDefEqProofs [hf, hf2]; rfl, ?_⟩
      exact wa_ret ⟨by simp, _, by simp; rfl, by simp [bne]; rfl, _, by simp; rfl⟩

theorem pc_a4 (n : Net) (a : V) (x : Ar.Arc) (H : Heap) : Pc E 110 [NV n a, .agg x.cells] H (.bool (vtx n x.src && vtx n x.dst)) := Pc.mk fun G => by
  refine call_E rfl nc110 rfl ?_
  unfold gc110
  obtain ⟨f, hf⟩ := pc_vertex n a x.src H
  obtain ⟨f2, hf2⟩ := pc_vertex n a x.dst H
  change ∀ G, _ = some (V.bool (vtx n x.src), _) at hf
  change ∀ G, _ = some (V.bool (vtx n x.dst), _) at hf2
  unfold NV at hf hf2 ⊢
  unfold Arc.cells
  refine wa_sr ⟨_, by simp; rfl, ?_⟩
  cases h1 : vtx n x.src
  · rw [h1] at hf
    refine wa_sr ⟨_, by simp -implicitDefEqProofs [hf]; rfl, ?_⟩
    exact wa_ret ⟨by simp, _, by simp; rfl, by simp, _, by simp; rfl⟩
  · rw [h1] at hf
    refine wa_sr ⟨_, by simp -implicitDefEqProofs [hf, hf2]; rfl, ?_⟩
    exact wa_ret ⟨by simp, _, by simp; rfl, by simp, _, by simp; rfl⟩
theorem pc_a5 (n : Net) (a : V) (x : Ar.Arc) (H : Heap) : Pc E 111 [NV n a, .agg x.cells] H (.bool (decide (0 ≤ x.cap))) := Pc.mk fun G => by
  refine call_E rfl nc111 rfl ?_
  unfold gc111 NV Arc.cells
  refine wa_sr ⟨_, by simp; rfl, ?_⟩
  refine wa_sr ⟨_, by simp; rfl, ?_⟩
  exact wa_ret ⟨by simp, _, by simp; rfl, by simp, _, by simp; rfl⟩

/-- Not so, of one arc. -/
theorem pc_not {n : Net} {a : V} {x : Ar.Arc} {H : Heap} {k1 k2 s : Nat} {b : Bool} (h1 : ∀ G, rd (H ++ G) k1 0 = some (.fn s [] [])) (h2 : ∀ G, rdn (H ++ G) k2 0 4 = some [.int .i64 n.N, .int .i64 n.S, .int .i64 n.T, a]) (h3 : Pc E s [NV n a, .agg x.cells] H (.bool b)) :
    Pc E 132 [.agg x.cells, .ptr k1 0, .ptr k2 0] H (.bool (!b)) := Pc.mk fun G => by
  refine call_E rfl nc132 rfl ?_
  unfold gc132
  obtain ⟨f, hf⟩ := h3
  unfold NV at hf
  unfold Arc.cells at hf ⊢
  refine wa_sr ⟨_, by simp; rfl, ?_⟩
  refine wa_sr ⟨_, by simp -implicitDefEqProofs [h1, h2, hf]; rfl, ?_⟩
  exact wa_ret ⟨by simp, _, by simp; rfl, by simp, _, by simp; rfl⟩

/-- Where the first arc stands that is so. -/
theorem pc_index {a : V} {l : List Ar.Arc} {H : Heap} {g : Nat} {cs : List V} {p : Ar.Arc → Bool} (h : AL H a l) (hs : l.length ≤ 2 ^ 40) (hp : ∀ x, x ∈ l → Pc E g (V.agg x.cells :: cs) H (.bool (p x))) :
    Pc E 138 [a, .fn g [] cs] H (.int .i64 (match l.findIdx? p with | some i => (i : Int) | none => -1)) := Pc.mk fun G => by
  refine call_E rfl nc138 rfl ?_
  unfold gc138
  have hl : lenOf a = some l.length := Rw.len h
  refine wa_sr ⟨_, by simp; rfl, ?_⟩
  refine wa_sr ⟨_, by simp [hl]; rfl, ?_⟩
  refine wa_cut (fun s => (∃ G', s.H = H ++ G ++ G') ∧ ∀ (j : Nat) (hj : j < l.length), p l[j] = false) ?_ ?_
  · refine wa_for (n := l.length) (fun i (_ : Unit) => [(0, a), (1, .fn g [] cs)]) (fun i _ H' => (∃ G', H' = H ++ G ++ G') ∧ ∀ (j : Nat) (hj : j < l.length), j < i → p l[j] = false) ()
      (by decide) (fun i hi => w64 (by omega) (by omega)) (by simp) (by simp) (by simp [Rg]) ⟨⟨[], by simp⟩, fun j _ h => by omega⟩ (by simp) ?_ ?_
    · rintro i _ τ H2 hi t8 t7 ⟨t0, t1, -⟩ ⟨⟨G', rfl⟩, hall⟩
      dsimp only [ev] at *
      obtain ⟨k, o, c, rfl, hk, hr, _⟩ := h.at hi
      obtain ⟨f, hf⟩ := hp l[i] (List.getElem_mem hi)
      refine wa_sr ⟨_, by simp [t8]; rfl, ?_⟩
      have hr' := hr (G ++ G')
      have hf' := hf (G ++ G')
      simp only [List.append_assoc] at hr' hf' ⊢
      refine wa_sr ⟨_, by simp -implicitDefEqProofs [t0, t1, hi, hr', hf']; rfl, ?_⟩
      cases hpi : p l[i]
      · refine wa_cond (t := false) (by simp [hpi]) (fun h => by cases h) (fun _ => wa_skip ?_)
        refine ⟨by simp [t8], by simp [t7], (), by simp [Rg, t0, t1], ⟨_, by simp; rfl⟩, fun j hj hji => ?_⟩
        by_cases e : j = i
        · subst e; exact hpi
        · exact hall j hj (by omega)
      · refine wa_cond (t := true) (by simp [hpi]) (fun _ => ?_) (fun h => by cases h)
        refine wa_sr ⟨_, by simp; rfl, ?_⟩
        refine wa_ret ⟨by simp, _, by simp; rfl, ?_, _, by simp; rfl⟩
        have : l.findIdx? p = some i := by
          rw [List.findIdx?_eq_some_iff_getElem]
          exact ⟨hi, hpi, fun j hj => by simpa using hall j (by omega) hj⟩
        rw [this]; rfl
    · rintro _ τ H2 - ⟨hG, hall⟩
      exact ⟨hG, fun j hj => hall j hj hj⟩
  · rintro ⟨τ, H2⟩ ⟨⟨G', hG⟩, hall⟩
    dsimp only at hG
    refine wa_sr ⟨_, by simp; rfl, ?_⟩
    refine wa_ret ⟨by simp, _, by simp; rfl, ?_, G', hG⟩
    have : l.findIdx? p = none := by
      rw [List.findIdx?_eq_none_iff]
      intro x hx
      obtain ⟨j, hj, rfl⟩ := List.mem_iff_getElem.1 hx
      exact hall j hj
    rw [this]; rfl
theorem pc_contains {a : V} {l : List Ar.Arc} {H : Heap} {g : Nat} {cs : List V} {p : Ar.Arc → Bool} (h : AL H a l) (hs : l.length ≤ 2 ^ 40) (hp : ∀ x, x ∈ l → Pc E g (V.agg x.cells :: cs) H (.bool (p x))) :
    Pc E 131 [a, .fn g [] cs] H (.bool (l.any p)) := Pc.mk fun G => by
  refine call_E rfl nc131 rfl ?_
  unfold gc131
  obtain ⟨f, hf⟩ := pc_index h hs hp
  refine wa_sr ⟨_, by simp; rfl, ?_⟩
  refine wa_sr ⟨_, by simp -implicitDefEqProofs [hf]; rfl, ?_⟩
  refine wa_ret ⟨by simp, _, by simp; rfl, ?_, _, by simp; rfl⟩
  cases hi : l.findIdx? p with
  | none =>
    have h1 := List.findIdx?_eq_none_iff.1 hi
    have : l.any p = false := by rw [List.any_eq_false]; exact fun x hx => by simp [h1 x hx]
    simp [this]
  | some i =>
    rw [List.findIdx?_eq_some_iff_getElem] at hi
    obtain ⟨h1, h2, _⟩ := hi
    have : l.any p = true := by rw [List.any_eq_true]; exact ⟨_, List.getElem_mem h1, h2⟩
    simp [this]
/-- So of all arcs. -/
theorem pc_of {n : Net} {a : V} {H : Heap} {k1 s : Nat} {p : Ar.Arc → Bool} (h : AL H a n.arcs) (hs : n.arcs.length ≤ 2 ^ 40) (h1 : ∀ G, rd (H ++ G) k1 0 = some (.fn s [] [])) (hp : ∀ x, x ∈ n.arcs → ∀ H, Pc E s [NV n a, .agg x.cells] H (.bool (p x))) :
    Pc E 130 [NV n a, .ptr k1 0] H (.bool (n.arcs.all p)) := Pc.mk fun G => by
  refine call_E rfl nc130 rfl ?_
  unfold gc130
  have hl : lenOf a = some n.arcs.length := Rw.len h
  have key : Pc E 131 [a, .fn 132 [] [.ptr k1 0, .ptr (H ++ G).length 0]] (H ++ G ++ [nbox n a]) (.bool (n.arcs.any fun x => !p x)) := by
    refine pc_contains ((h.app G).app _) hs fun x hx => ?_
    refine pc_not (n := n) (a := a) (s := s) (fun G' => ?_) (fun G' => ?_) (hp x hx _)
    · rw [List.append_assoc, List.append_assoc]; exact h1 _
    · rw [List.append_assoc (H ++ G)]; rw [rdn_app0]; rfl
  obtain ⟨f, hf⟩ := key.run
  unfold NV
  have hf' : callL E (.f 131) [a, .fn 132 [] [.ptr k1 0, .ptr (H.length + G.length) 0]] (H ++ (G ++ [.cells [.int .i64 n.N, .int .i64 n.S, .int .i64 n.T, a] .ex])) = some (.bool (n.arcs.any fun x => !p x), H ++ (G ++ ([.cells [.int .i64 n.N, .int .i64 n.S, .int .i64 n.T, a] .ex] ++ f))) := by
    have := hf
    simp only [List.length_append, List.append_assoc] at this
    exact this
  refine wa_sr ⟨_, by simp [len_cells hl]; rfl, ?_⟩
  refine wa_sr ⟨_, by simp -implicitDefEqProofs [hf']; rfl, ?_⟩
  refine wa_ret ⟨by simp, _, by simp; rfl, ?_, _, by simp; rfl⟩
  simp [List.all_eq_not_any_not]
end Go.Proofs.Ytpojdgeginigjaa
/- Nets: the sum of capacities; whether a net may be. -/
set_option linter.unusedSimpArgs false
set_option linter.unusedVariables false
namespace Go.Proofs.Ytpojdgeginigjaa
open Go Go.Ar
set_option maxRecDepth 100000

def sumT (left : Int) : List Ar.Arc → Option Int
  | [] => some left
  | x :: l => if x.cap < 0 ∨ left < x.cap then none else sumT (left - x.cap) l
def big : Int := 4611686018427387904
def sumV (l : List Ar.Arc) : Int := match sumT big l with | some r => big - r | none => 0
def sumOk (l : List Ar.Arc) : Bool := (sumT big l).isSome

theorem pc_sum {n : Net} {a : V} {H : Heap} (h : AL H a n.arcs) (hs : n.arcs.length ≤ 2 ^ 40) : Pc E 30 [NV n a] H (.tup [.int .i64 (sumV n.arcs), .bool (sumOk n.arcs)]) := Pc.mk fun G => by
  have hA := h.app G
  clear h
  generalize H ++ G = H1 at *
  refine call_E rfl nc30 rfl ?_
  unfold gc30 NV
  have hl : lenOf a = some n.arcs.length := Rw.len hA
  refine wa_sr ⟨_, by simp [len_cells hl]; rfl, ?_⟩
  refine wa_sr ⟨_, by simp; rfl, ?_⟩
  refine wa_sr ⟨_, by simp [hl]; rfl, ?_⟩
  have hres : ∀ x, x = (V.tup [.int .i64 (sumV n.arcs), .bool (sumOk n.arcs)]) → x = (V.tup [.int .i64 (sumV n.arcs), .bool (sumOk n.arcs)]) := fun _ h => h
  refine wa_cut (fun s => (∃ G', s.H = H1 ++ G') ∧ ∃ r, sumT big n.arcs = some r ∧ 0 ≤ r ∧ r ≤ big ∧ s.τ 4 = .int .i64 r) ?_ ?_
  · refine wa_for (n := n.arcs.length) (fun i (y : Int) => [(4, .int .i64 y), (8, a)]) (fun i y H' => (∃ G', H' = H1 ++ G') ∧ sumT big n.arcs = sumT y (n.arcs.drop i) ∧ 0 ≤ y ∧ y ≤ big) big
      (by decide) (fun i hi => w64 (by omega) (by omega)) (by simp) (by simp) (by simp [Rg, big]) ⟨⟨_, rfl⟩, by simp, by simp [big], by simp [big]⟩ (by simp) ?_ ?_
    · rintro i y τ H2 hi t10 t9 ⟨t4, t8, -⟩ ⟨⟨G', rfl⟩, hy, hy0, hy1⟩
      dsimp only [ev] at *
      obtain ⟨k, o, c, rfl, hk, hr, _⟩ := hA.at hi
      unfold Arc.cells at hr
      rw [List.drop_eq_getElem_cons hi] at hy
      generalize hx : n.arcs[i] = x at *
      have hr' := hr G'
      unfold big at hy1
      refine wa_sr ⟨_, by simp -implicitDefEqProofs [t8, t10, hi, hr, List.append_assoc]; rfl, ?_⟩
      simp only [sumT] at hy
      by_cases h1 : x.cap < 0
      · rw [if_pos (.inl h1)] at hy
        refine wa_sr ⟨_, by simp -implicitDefEqProofs [h1]; rfl, ?_⟩
        refine wa_if (t := true) (by simp) (fun _ => ?_) (fun h => by cases h)
        refine wa_sr ⟨_, by simp; rfl, ?_⟩
        exact wa_rt ⟨by simp, _, by simp; rfl, by simp [sumV, sumOk, hy], _, by simp; rfl⟩
      · by_cases h2 : y < x.cap
        · rw [if_pos (.inr h2)] at hy
          refine wa_sr ⟨_, by simp -implicitDefEqProofs [h1, h2, t4]; rfl, ?_⟩
          refine wa_if (t := true) (by simp) (fun _ => ?_) (fun h => by cases h)
          refine wa_sr ⟨_, by simp; rfl, ?_⟩
          exact wa_rt ⟨by simp, _, by simp; rfl, by simp [sumV, sumOk, hy], _, by simp; rfl⟩
        · rw [if_neg (by omega)] at hy
          refine wa_sr ⟨_, by simp -implicitDefEqProofs [h1, h2, t4]; rfl, ?_⟩
          refine wa_if (t := false) (by simp) (fun h => by cases h) (fun _ => ?_)
          have hw : IntKind.i64.wrap (y - x.cap) = y - x.cap := w64 (by omega) (by omega)
          refine wa_regs ⟨_, by simp -implicitDefEqProofs [t4, hw]; rfl, ?_⟩
          exact ⟨by simp [t10], by simp [t9], y - x.cap, by simp [Rg, t8], ⟨_, by simp; rfl⟩, hy, by omega, by unfold big; omega⟩
    · rintro y τ H2 ⟨t4, t8, -⟩ ⟨hG, hy, hy0, hy1⟩
      rw [List.drop_length] at hy
      exact ⟨hG, y, hy, hy0, hy1, t4⟩
  · rintro ⟨τ, H2⟩ ⟨⟨G', hG⟩, r, hr, hr0, hr1, t4⟩
    dsimp only at hG t4
    unfold big at hr1
    have hw : IntKind.i64.wrap (4611686018427387904 - r) = 4611686018427387904 - r := w64 (by omega) (by omega)
    refine wa_sr ⟨_, by simp [t4, hw]; rfl, ?_⟩
    exact wa_ret ⟨by simp, _, by simp; rfl, by simp only [pack, sumV, sumOk, hr]; rfl, G', by simpa using hG⟩
theorem pc_r6 {n : Net} {a : V} {H : Heap} (h : AL H a n.arcs) (hs : n.arcs.length ≤ 2 ^ 40) : Pc E 112 [NV n a] H (.bool (sumOk n.arcs)) := Pc.mk fun G => by
  refine call_E rfl nc112 rfl ?_
  unfold gc112
  have hl : lenOf a = some n.arcs.length := Rw.len h
  obtain ⟨f, hf⟩ := pc_sum h hs
  unfold NV at hf ⊢
  refine wa_sr ⟨_, by simp [len_cells hl]; rfl, ?_⟩
  refine wa_sr ⟨_, by simp -implicitDefEqProofs [hf]; rfl, ?_⟩
  refine wa_sr ⟨_, by simp; rfl, ?_⟩
  exact wa_ret ⟨by simp, _, by simp; rfl, by simp, _, by simp; rfl⟩

theorem of_ok {x : V} (hx : x.cells = some [x]) (H : Heap) : callL E (.f 109) [x] H = some (.fn 130 [] [.ptr H.length 0], H ++ [.cells [x] .ex]) := by
  have key : ∃ v H', callL E (.f 109) [x] H = some (v, H') ∧ v = .fn 130 [] [.ptr H.length 0] ∧ H' = H ++ [.cells [x] .ex] := by
    refine call_E rfl nc109 rfl ?_
    unfold gc109
    refine wa_sr ⟨_, by simp [hx]; rfl, ?_⟩
    refine wa_sr ⟨_, by simp; rfl, ?_⟩
    exact wa_ret ⟨by simp, _, by simp; rfl, rfl, rfl⟩
  obtain ⟨v, H', h, rfl, rfl⟩ := key
  exact h
/-- All rules. -/
theorem rules_ok (H : Heap) : ∃ b0, callL E (.f 77) [] H = some (.agg [.fn 105 [] [], .int .i64 10, .fn 106 [] [], .int .i64 11, .fn 107 [] [], .int .i64 12, .fn 130 [] [.ptr (H.length + 1) 0], .int .i64 13, .fn 130 [] [.ptr (H.length + 2) 0], .int .i64 14, .fn 112 [] [], .int .i64 15],
    H ++ [b0, .cells [.fn 110 [] []] .ex, .cells [.fn 111 [] []] .ex]) := by
  have key : ∃ v H', callL E (.f 77) [] H = some (v, H') ∧ v = .agg [.fn 105 [] [], .int .i64 10, .fn 106 [] [], .int .i64 11, .fn 107 [] [], .int .i64 12, .fn 130 [] [.ptr (H.length + 1) 0], .int .i64 13, .fn 130 [] [.ptr (H.length + 2) 0], .int .i64 14, .fn 112 [] [], .int .i64 15] ∧
      ∃ b0, H' = H ++ [b0, .cells [.fn 110 [] []] .ex, .cells [.fn 111 [] []] .ex] := by
    refine call_E rfl nc77 rfl ?_
    unfold gc77
    have h1 := fun H => of_ok (x := .fn 110 [] []) rfl H
    have h2 := fun H => of_ok (x := .fn 111 [] []) rfl H
    refine wa_sr ⟨_, by simp; rfl, ?_⟩
    refine wa_sr ⟨_, by simp -implicitDefEqProofs [h1, h2, fillc]; rfl, ?_⟩
    exact wa_ret ⟨by simp, _, by simp; rfl, by simp, _, rfl⟩
  obtain ⟨v, H', h, rfl, b0, rfl⟩ := key
  exact ⟨b0, h⟩

def chk (n : Net) : Int :=
  if okN n = false then 10 else if okM n = false then 11 else if okE n = false then 12 else if (n.arcs.all fun x => vtx n x.src && vtx n x.dst) = false then 13
  else if (n.arcs.all fun x => decide (0 ≤ x.cap)) = false then 14 else if sumOk n.arcs = false then 15 else 0

def chkL : List (Bool × Int) → Int
  | [] => 0
  | p :: l => if p.1 then chkL l else p.2
def rulesOf (n : Net) : List (Bool × Int) := [(okN n, 10), (okM n, 11), (okE n, 12), (n.arcs.all fun x => vtx n x.src && vtx n x.dst, 13), (n.arcs.all fun x => decide (0 ≤ x.cap), 14), (sumOk n.arcs, 15)]
theorem chk_L (n : Net) : chk n = chkL (rulesOf n) := by
  unfold chk rulesOf
  simp only [chkL]
  cases okN n <;> cases okM n <;> cases okE n <;> cases (n.arcs.all fun x => vtx n x.src && vtx n x.dst) <;> cases (n.arcs.all fun x => decide (0 ≤ x.cap)) <;> cases sumOk n.arcs <;> rfl

theorem pc_check {n : Net} {a : V} {H : Heap} (h : AL H a n.arcs) (hs : n.arcs.length ≤ 2 ^ 40) : Pc E 28 [NV n a] H (.int .i64 (chk n)) := Pc.mk fun G => by
  have hA := h.app G
  clear h
  generalize H ++ G = H1 at *
  refine call_E rfl nc28 rfl ?_
  unfold gc28
  have hl : lenOf a = some n.arcs.length := Rw.len hA
  obtain ⟨b0, hru⟩ := rules_ok (H1 ++ [nbox n a])
  unfold nbox at hru
  have hB := (hA.app [nbox n a]).app [b0, .cells [.fn 110 [] []] .ex, .cells [.fn 111 [] []] .ex]
  simp only [List.append_assoc, List.cons_append, List.nil_append, List.length_append, List.length_singleton] at hru hB
  rw [show H1.length + 1 + 1 = H1.length + 2 from rfl, show H1.length + 1 + 2 = H1.length + 3 from rfl] at hru
  obtain ⟨f1, g1⟩ := pc_r1 n a (H1 ++ (nbox n a :: [b0, .cells [.fn 110 [] []] .ex, .cells [.fn 111 [] []] .ex]))
  obtain ⟨f2, g2⟩ := pc_r2 hB
  obtain ⟨f3, g3⟩ := pc_r3 n a (H1 ++ (nbox n a :: [b0, .cells [.fn 110 [] []] .ex, .cells [.fn 111 [] []] .ex]))
  obtain ⟨f4, g4⟩ := pc_of hB hs (k1 := H1.length + 2) (s := 110) (fun G => by rw [List.append_assoc, rd_appn]; rfl) fun x _ H => pc_a4 n a x H
  obtain ⟨f5, g5⟩ := pc_of hB hs (k1 := H1.length + 3) (s := 111) (fun G => by rw [List.append_assoc, rd_appn]; rfl) fun x _ H => pc_a5 n a x H
  obtain ⟨f6, g6⟩ := pc_r6 hB hs
  have hbase : ∀ G, H1 ++ (nbox n a :: b0 :: Blk.cells [.fn 110 [] []] .ex :: Blk.cells [.fn 111 [] []] .ex :: G) = (H1 ++ (nbox n a :: [b0, .cells [.fn 110 [] []] .ex, .cells [.fn 111 [] []] .ex])) ++ G := fun G => by simp
  let R : List V := [.fn 105 [] [], .int .i64 10, .fn 106 [] [], .int .i64 11, .fn 107 [] [], .int .i64 12, .fn 130 [] [.ptr (H1.length + 2) 0], .int .i64 13, .fn 130 [] [.ptr (H1.length + 3) 0], .int .i64 14, .fn 112 [] [], .int .i64 15]
  have hrule : ∀ i, i < 6 → ∃ g cs e b, ∃ f : Heap → Heap, (R.drop (i * 2)).take 2 = [.fn g [] cs, .int .i64 e] ∧ (∀ G, callL E (.f g) (NV n a :: cs) (H1 ++ (nbox n a :: b0 :: Blk.cells [.fn 110 [] []] .ex :: Blk.cells [.fn 111 [] []] .ex :: G)) = some (.bool b, H1 ++ (nbox n a :: b0 :: Blk.cells [.fn 110 [] []] .ex :: Blk.cells [.fn 111 [] []] .ex :: (G ++ f G)))) ∧ (rulesOf n).drop i = (b, e) :: (rulesOf n).drop (i + 1) := by
    intro i hi
    rcases (by omega : i = 0 ∨ i = 1 ∨ i = 2 ∨ i = 3 ∨ i = 4 ∨ i = 5) with rfl | rfl | rfl | rfl | rfl | rfl
    · exact ⟨105, [], _, _, f1, rfl, fun G => by rw [hbase, g1, hbase (G ++ f1 G)], rfl⟩
    · exact ⟨106, [], _, _, f2, rfl, fun G => by rw [hbase, g2, hbase (G ++ f2 G)], rfl⟩
    · exact ⟨107, [], _, _, f3, rfl, fun G => by rw [hbase, g3, hbase (G ++ f3 G)], rfl⟩
    · exact ⟨130, _, _, _, f4, rfl, fun G => by rw [hbase, g4, hbase (G ++ f4 G)], rfl⟩
    · exact ⟨130, _, _, _, f5, rfl, fun G => by rw [hbase, g5, hbase (G ++ f5 G)], rfl⟩
    · exact ⟨112, [], _, _, f6, rfl, fun G => by rw [hbase, g6, hbase (G ++ f6 G)], rfl⟩
  have hRl : R.length = 12 := rfl
  unfold NV
  refine wa_sr ⟨_, by simp [len_cells hl]; rfl, ?_⟩
  refine wa_sr ⟨_, by simp -implicitDefEqProofs [hru]; rfl, ?_⟩
  change WP E _ ⟨_, H1 ++ (nbox n a :: b0 :: Blk.cells [.fn 110 [] []] .ex :: Blk.cells [.fn 111 [] []] .ex :: [])⟩ _
  refine wa_rg [(1, .ptr H1.length 0), (5, .agg R), (6, .int .i64 0)] (by simp [Rg, R]) ?_
  rintro τ ⟨t1, t5, t6, -⟩
  dsimp only at t1 t5 t6
  clear_value R
  refine wa_cut (fun s => chk n = 0 ∧ ∃ G', s.H = H1 ++ G') ?_ ?_
  · refine wa_for (n := 6) (fun i (_ : Unit) => [(1, .ptr H1.length 0), (5, .agg R)]) (fun i _ H' => (∃ G', H' = H1 ++ (nbox n a :: b0 :: Blk.cells [.fn 110 [] []] .ex :: Blk.cells [.fn 111 [] []] .ex :: G')) ∧ chk n = chkL ((rulesOf n).drop i)) ()
      (by decide) (fun i hi => w64 (by omega) (by omega)) t6 rfl (by simp [Rg, t1, t5]) ⟨⟨[], rfl⟩, chk_L n⟩ (by simp) ?_ ?_
    · rintro i _ τ H2 hi t6 - ⟨t1, t5, -⟩ ⟨⟨G', rfl⟩, hc⟩
      dsimp only [ev] at *
      obtain ⟨g, cs, e, b, f, h1, h2, h3⟩ := hrule i hi
      rw [h3] at hc
      simp only [chkL] at hc
      have h2' := fun G => h2 G
      have hi6 : (i : Int) < 6 := by omega
      unfold NV nbox at h2'
      unfold nbox
      refine wa_sr ⟨_, by simp -implicitDefEqProofs [t5, t6, hi6, h1]; rfl, ?_⟩
      refine wa_sr ⟨_, by simp -implicitDefEqProofs [t1, h2']; rfl, ?_⟩
      cases b
      · refine wa_cond (t := true) (by simp) (fun _ => ?_) (fun h => by cases h)
        refine wa_sr ⟨_, by simp; rfl, ?_⟩
        exact wa_ret ⟨by simp, _, by simp; rfl, by simp [hc], _, by simp; rfl⟩
      · refine wa_cond (t := false) (by simp) (fun h => by cases h) (fun _ => wa_skip ?_)
        exact ⟨by simp [t6], rfl, (), by simp [Rg, t1, t5], ⟨_, rfl⟩, by simpa using hc⟩
    · rintro _ τ H2 - ⟨⟨G', rfl⟩, hc⟩
      exact ⟨by rw [hc]; rfl, _, rfl⟩
  · rintro ⟨τ, H2⟩ ⟨hc, G', hG⟩
    dsimp only at hG
    refine wa_sr ⟨_, by simp; rfl, ?_⟩
    exact wa_ret ⟨by simp, _, by simp; rfl, by simp [hc], G', by simpa using hG⟩
end Go.Proofs.Ytpojdgeginigjaa
/- Copies; numbers among so many; arcs that are written. -/
set_option linter.unusedSimpArgs false
set_option linter.unusedVariables false
namespace Go.Proofs.Ytpojdgeginigjaa
open Go Go.Ar
set_option maxRecDepth 100000

theorem emod_of {x n : Int} (hn : 0 < n) : (x.tmod n + n).tmod n = x % n := by
  have h1 := Int.tmod_lt_of_pos x hn
  have h2 : -n < x.tmod n := Int.lt_tmod_of_pos x hn
  rw [Int.tmod_eq_emod_of_nonneg (by omega), Int.add_emod_right, Int.tmod_eq_emod]
  split
  · simp
  · have : (n.natAbs : Int) = n := by omega
    rw [this, Int.sub_emod, Int.emod_self, Int.sub_zero, Int.emod_emod_of_dvd _ (Int.dvd_refl _), Int.emod_emod_of_dvd _ (Int.dvd_refl _)]

theorem among_ok {x n : Int} (h1 : 1 ≤ n) (h2 : n ≤ 2 ^ 40) (H : Heap) : callL E (.f 29) [.int .i64 x, .int .i64 n] H = some (.int .i64 (x % n), H) := by
  have key : ∃ v H', callL E (.f 29) [.int .i64 x, .int .i64 n] H = some (v, H') ∧ v = .int .i64 (x % n) ∧ H' = H := by
    refine call_E rfl nc29 rfl ?_
    unfold gc29
    have hn : ¬ n < 1 := by omega
    have hn0 : n ≠ 0 := by omega
    have m1 := Int.tmod_lt_of_pos x (by omega : 0 < n)
    have m2 : -n < x.tmod n := Int.lt_tmod_of_pos x (by omega)
    have hw : IntKind.i64.wrap (x.tmod n + n) = x.tmod n + n := w64 (by omega) (by omega)
    refine wa_sr ⟨_, by simp; rfl, ?_⟩
    refine wa_sr ⟨_, by simp; rfl, ?_⟩
    refine wa_if (t := false) (by simp [hn]) (fun h => by cases h) (fun _ => ?_)
    refine wa_sr ⟨_, by simp [hn0, hw]; rfl, ?_⟩
    exact wa_ret ⟨by simp, _, by simp; rfl, by simp [emod_of (by omega : 0 < n)], rfl⟩
  obtain ⟨v, H', h, rfl, rfl⟩ := key
  exact h

def Sl (x : V) : Prop := x = .nils ∨ ∃ k o l c, x = .sl k o l c
def acells (l : List Ar.Arc) : List V := l.flatMap Arc.cells
theorem acells_length (l : List Ar.Arc) : (acells l).length = l.length * 3 := by
  induction l with
  | nil => rfl
  | cons x l ih => simp only [acells, List.flatMap_cons, List.length_append] at ih ⊢; rw [ih]; simp [Arc.cells]; omega
theorem acells_scalar (l : List Ar.Arc) : (acells l).all V.scalar = true := by
  induction l with
  | nil => rfl
  | cons x l ih => simp only [acells, List.flatMap_cons, List.all_append] at ih ⊢; rw [ih]; rfl
/-- A row of arcs that is owned. -/
def Own3 (H : Heap) (B : Nat) (x : V) (l : List Ar.Arc) : Prop := (x = .nils ∧ l = []) ∨ ∃ k m, x = .sl k 0 l.length l.length ∧ B ≤ k ∧ H[k]? = some (.cells (acells l) m) ∧ (m = .gr 3 ∨ (m = .ex ∧ l = []))
theorem Own3.sl {H : Heap} {B : Nat} {x : V} {l : List Ar.Arc} (h : Own3 H B x l) : Sl x := by
  rcases h with ⟨rfl, _⟩ | ⟨k, m, rfl, _⟩
  · exact .inl rfl
  · exact .inr ⟨_, _, _, _, rfl⟩
theorem AL.own {H : Heap} {k c : Nat} {l : List Ar.Arc} {m : Ar.Mode} (h : H[k]? = some (.cells (acells l) m)) : AL H (.sl k 0 l.length c) l := by
  refine ⟨rfl, ?_⟩
  simp only [cellsOf, rdn, h]
  rw [if_pos (by rw [acells_length]; omega)]
  simp only [List.drop_zero]
  rw [List.take_of_length_le (by rw [acells_length]; omega)]; rfl
theorem Own3.al {H : Heap} {B : Nat} {x : V} {l : List Ar.Arc} (h : Own3 H B x l) : AL H x l := by
  rcases h with ⟨rfl, rfl⟩ | ⟨k, m, rfl, _, h, _⟩
  · exact ⟨rfl, rfl⟩
  · exact AL.own h
theorem Own3.frame {H H' : Heap} {B : Nat} {x : V} {l : List Ar.Arc} (h : Own3 H B x l) (e : ∀ k, x.blk? = some k → H'[k]? = H[k]?) : Own3 H' B x l := by
  rcases h with ⟨rfl, rfl⟩ | ⟨k, m, rfl, hb, h, hm⟩
  · exact .inl ⟨rfl, rfl⟩
  · exact .inr ⟨k, m, rfl, hb, (e k rfl).trans h, hm⟩
theorem Own3.app {H : Heap} {B : Nat} {x : V} {l : List Ar.Arc} (h : Own3 H B x l) (G : Heap) : Own3 (H ++ G) B x l := h.frame fun k hk => List.getElem?_append_left (Rw.lt h.al k hk)
theorem Own3.ge {H : Heap} {B : Nat} {x : V} {l : List Ar.Arc} (h : Own3 H B x l) : ∀ k, x.blk? = some k → B ≤ k := by
  intro k hk
  rcases h with ⟨rfl, rfl⟩ | ⟨k', m, rfl, hb, _⟩
  · simp [V.blk?] at hk
  · simp [V.blk?] at hk; omega

theorem clone3_ok {a : V} {l : List Ar.Arc} {H : Heap} (h : AL H a l) (hx : Sl a) (hs : l.length ≤ 2 ^ 20) : ∃ x H', callL E (.f 76) [a] H = some (x, H') ∧ (∃ G, H' = H ++ G) ∧ Own3 H' H.length x l := by
  have key : ∃ v H', callL E (.f 76) [a] H = some (v, H') ∧ (∃ G, H' = H ++ G) ∧ Own3 H' H.length v l := by
    refine call_E rfl nc76 rfl ?_
    unfold gc76
    refine wa_sr ⟨_, by simp; rfl, ?_⟩
    rcases hx with rfl | ⟨k, o, n, c, rfl⟩
    · have hl : l = [] := List.eq_nil_of_length_eq_zero (by have := Rw.len h; simpa [lenOf] using this.symm)
      subst hl
      refine wa_sr ⟨_, by simp; rfl, ?_⟩
      refine wa_if (t := true) (by simp) (fun _ => ?_) (fun h => by cases h)
      refine wa_sr ⟨_, by simp; rfl, ?_⟩
      exact wa_rt ⟨by simp, _, by simp; rfl, ⟨[], by simp⟩, .inl ⟨rfl, rfl⟩⟩
    · obtain ⟨x', H', a1, a2⟩ := appnew_ok (sz := 3) (by' := 24) (Rw.len h) h.cells (Rw.lt h) (acells_scalar l) (acells_length l) (by omega) (by unfold lim; omega)
      refine wa_sr ⟨_, by simp; rfl, ?_⟩
      refine wa_if (t := false) (by simp) (fun h => by cases h) (fun _ => ?_)
      refine wa_sr ⟨_, by simp [fillc, a1]; rfl, ?_⟩
      refine wa_ret ⟨by simp, _, by simp; rfl, ?_, ?_⟩
      · rcases a2 with ⟨_, _, rfl⟩ | ⟨_, _, rfl⟩
        · exact ⟨_, rfl⟩
        · exact ⟨_, by simp; rfl⟩
      · rcases a2 with ⟨h0, rfl, rfl⟩ | ⟨h0, rfl, rfl⟩
        · have : l = [] := List.eq_nil_of_length_eq_zero h0
          subst this
          exact .inr ⟨H.length, .ex, by simp, Nat.le_refl _, by simp [acells], .inr ⟨rfl, rfl⟩⟩
        · exact .inr ⟨H.length + 1, .gr 3, by simp, by omega, by simp [acells], .inl rfl⟩
  exact key
theorem copy_ok {n : Net} {a : V} {H : Heap} (h : AL H a n.arcs) (hx : Sl a) (hs : n.arcs.length ≤ 2 ^ 20) : ∃ x H', callL E (.f 27) [NV n a] H = some (NV n x, H') ∧ (∃ G, H' = H ++ G) ∧ Own3 H' H.length x n.arcs := by
  have key : ∃ v H', callL E (.f 27) [NV n a] H = some (v, H') ∧ ∃ x, v = NV n x ∧ (∃ G, H' = H ++ G) ∧ Own3 H' H.length x n.arcs := by
    refine call_E rfl nc27 rfl ?_
    unfold gc27 NV
    have hl : lenOf a = some n.arcs.length := Rw.len h
    have hc := h.app [nbox n a, .cells [.int .i64 0, .int .i64 0, .int .i64 0, .nils] .ex]
    obtain ⟨x, H', c1, ⟨G, rfl⟩, c3⟩ := clone3_ok hc hx hs
    have hxl : x.cells = some [x] := Rw.one c3.al
    have hxs : x.scalar = true := len_scalar (Rw.len c3.al)
    unfold nbox at c1 c3
    simp only [List.append_assoc, List.cons_append, List.nil_append] at c1 c3
    refine wa_sr ⟨_, by simp [len_cells hl]; rfl, ?_⟩
    refine wa_sr ⟨_, by simp -implicitDefEqProofs [c1, hxl, hxs]; rfl, ?_⟩
    refine wa_sr ⟨_, by simp -implicitDefEqProofs [hxs]; rfl, ?_⟩
    refine wa_ret ⟨by simp, _, by simp; rfl, x, by simp, ⟨_, rfl⟩, ?_⟩
    have h1 : Own3 (H ++ (.cells [.int .i64 n.N, .int .i64 n.S, .int .i64 n.T, x] .ex :: .cells [.int .i64 n.N, .int .i64 n.S, .int .i64 n.T, x] .ex :: G)) (H.length + 2) x n.arcs := by
      rw [show H.length + 2 = (H ++ [nbox n a, .cells [.int .i64 0, .int .i64 0, .int .i64 0, .nils] .ex]).length by simp]
      refine c3.frame fun k hk => ?_
      have := c3.ge k hk
      simp at this
      rw [List.getElem?_append_right (by omega), List.getElem?_append_right (by omega)]
      obtain ⟨j, hj⟩ : ∃ j, k - H.length = j + 2 := ⟨k - H.length - 2, by omega⟩
      rw [hj]; rfl
    rcases h1 with ⟨h2, h3⟩ | ⟨k, m, h2, h3, h4, h5⟩
    · exact .inl ⟨h2, h3⟩
    · exact .inr ⟨k, m, h2, by omega, h4, h5⟩
  obtain ⟨v, H', h, x, rfl, h2, h3⟩ := key
  exact ⟨x, H', h, h2, h3⟩
end Go.Proofs.Ytpojdgeginigjaa
/- NetFirst: the plain law; nets that lie in memory. -/
set_option linter.unusedSimpArgs false
set_option linter.unusedVariables false
namespace Go.Proofs.Ytpojdgeginigjaa
open Go Go.Ar
set_option maxRecDepth 100000

theorem chk_spec (m : Net) : chk m = 0 ∨ (10 ≤ chk m ∧ chk m ≤ 15 ∧ (∀ p, p ∈ rulesOf m → p.2 < chk m → p.1 = true) ∧ ∃ p, p ∈ rulesOf m ∧ p.2 = chk m ∧ p.1 = false) := by
  rw [chk_L]
  unfold rulesOf
  generalize okN m = b1
  generalize okM m = b2
  generalize okE m = b3
  generalize (m.arcs.all fun x => vtx m x.src && vtx m x.dst) = b4
  generalize (m.arcs.all fun x => decide (0 ≤ x.cap)) = b5
  generalize sumOk m.arcs = b6
  cases b1 <;> cases b2 <;> cases b3 <;> cases b4 <;> cases b5 <;> cases b6 <;> decide

def fixN (m : Net) : Net := { m with N := 2 + m.N % 4000 }
def fixE (m : Net) : Net := { m with S := 0, T := 1 }
def fixA (m : Net) : Net := { m with arcs := m.arcs.map fun a => ⟨a.src % m.N, a.dst % m.N, a.cap⟩ }
def fixC (m : Net) : Net := { m with arcs := m.arcs.map fun a => ⟨a.src, a.dst, if a.cap < 0 then 0 else a.cap⟩ }
def fixS (m : Net) : Net := { m with arcs := m.arcs.map fun a => ⟨a.src, a.dst, a.cap.fdiv 1024⟩ }

theorem okN_iff {m : Net} : okN m = true ↔ 2 ≤ m.N ∧ m.N ≤ 4096 := by simp [okN]
theorem vtx_iff {m : Net} {v : Int} : vtx m v = true ↔ 0 ≤ v ∧ v < m.N := by simp [vtx]
theorem okE_iff {m : Net} : okE m = true ↔ (0 ≤ m.S ∧ m.S < m.N) ∧ (0 ≤ m.T ∧ m.T < m.N) ∧ m.S ≠ m.T := by simp [okE, vtx, and_assoc]
theorem okM_iff {m : Net} : okM m = true ↔ m.arcs.length ≤ 16384 := by simp [okM]

structure FirstI (i : Nat) (last : Int) (m : Net) : Prop where
  hi : (i = 0 ∧ last = 0) ∨ (10 ≤ last ∧ last ≤ 15 ∧ (i : Int) ≤ last - 9)
  rules : ∀ p, p ∈ rulesOf m → p.2 ≤ last → p.1 = true
  len : m.arcs.length ≤ 300
  cap : ∀ a, a ∈ m.arcs → a.cap ≤ 9223372036854775807

theorem sumT_some : ∀ (l : List Ar.Arc) (left : Int), (∀ a, a ∈ l → 0 ≤ a.cap ∧ a.cap ≤ 9007199254740992) → 9007199254740992 * l.length ≤ left → (sumT left l).isSome = true
  | [], _, _, _ => rfl
  | x :: l, left, h, hl => by
    have hx := h x (by simp)
    simp only [List.length_cons] at hl
    have : ¬ (x.cap < 0 ∨ left < x.cap) := by omega
    simp only [sumT, if_neg this]
    exact sumT_some l _ (fun a ha => h a (by simp [ha])) (by omega)

theorem rules_iff (m : Net) (last : Int) : (∀ p, p ∈ rulesOf m → p.2 ≤ last → p.1 = true) ↔ ((10 ≤ last → okN m = true) ∧ (11 ≤ last → okM m = true) ∧ (12 ≤ last → okE m = true) ∧ (13 ≤ last → ∀ x, x ∈ m.arcs → vtx m x.src = true ∧ vtx m x.dst = true) ∧ (14 ≤ last → ∀ x, x ∈ m.arcs → 0 ≤ x.cap) ∧ (15 ≤ last → sumOk m.arcs = true)) := by
  unfold rulesOf
  simp [List.all_eq_true]

theorem first_step {i : Nat} {last : Int} {m : Net} (h : FirstI i last m) (he : chk m ≠ 0) :
    last < chk m ∧ 10 ≤ chk m ∧ chk m ≤ 15 ∧ (chk m = 10 ∧ FirstI (i + 1) 10 (fixN m) ∨ chk m = 12 ∧ FirstI (i + 1) 12 (fixE m) ∨ chk m = 13 ∧ 2 ≤ m.N ∧ m.N ≤ 4096 ∧ FirstI (i + 1) 13 (fixA m) ∨ chk m = 14 ∧ FirstI (i + 1) 14 (fixC m) ∨ chk m = 15 ∧ FirstI (i + 1) 15 (fixS m)) := by
  rcases chk_spec m with h0 | ⟨c1, c2, c3, p, hp, hp2, hp1⟩
  · exact absurd h0 he
  have hlt : last < chk m := by
    refine Classical.byContradiction fun hn => ?_
    have := h.rules p hp (by omega)
    rw [hp1] at this; cases this
  have hii : ((i + 1 : Nat) : Int) ≤ chk m - 9 := by
    rcases h.hi with ⟨rfl, rfl⟩ | ⟨a, b, c⟩ <;> omega
  have hprev : ∀ p, p ∈ rulesOf m → p.2 ≤ chk m - 1 → p.1 = true := fun q hq hle => c3 q hq (by omega)
  rw [rules_iff] at hprev
  obtain ⟨q1, q2, q3, q4, q5, q6⟩ := hprev
  have hM : okM m = true := by have := h.len; simp [okM]; omega
  refine ⟨hlt, c1, c2, ?_⟩
  rcases (by omega : chk m = 10 ∨ chk m = 11 ∨ chk m = 12 ∨ chk m = 13 ∨ chk m = 14 ∨ chk m = 15) with e | e | e | e | e | e
  · refine .inl ⟨e, .inr ⟨by omega, by omega, by omega⟩, ?_, h.len, h.cap⟩
    rw [rules_iff]
    refine ⟨fun _ => ?_, by omega, by omega, by omega, by omega, by omega⟩
    have h1 := Int.emod_nonneg m.N (by omega : (4000 : Int) ≠ 0)
    have h2 := Int.emod_lt_of_pos m.N (by omega : (0 : Int) < 4000)
    refine okN_iff.2 ?_
    show 2 ≤ 2 + m.N % 4000 ∧ 2 + m.N % 4000 ≤ 4096
    omega
  · exfalso
    rw [e] at hp2
    have : p = (okM m, 11) := by
      unfold rulesOf at hp
      simp only [List.mem_cons, List.not_mem_nil, or_false] at hp
      rcases hp with rfl | rfl | rfl | rfl | rfl | rfl <;> simp at hp2 ⊢
    rw [this, hM] at hp1; cases hp1
  · refine .inr (.inl ⟨e, .inr ⟨by omega, by omega, by omega⟩, ?_, h.len, h.cap⟩)
    rw [rules_iff]
    have hN := q1 (by omega)
    simp only [okN, Bool.and_eq_true, decide_eq_true_eq] at hN
    refine ⟨fun _ => okN_iff.2 hN, fun _ => hM, fun _ => okE_iff.2 ?_, by omega, by omega, by omega⟩
    show (0 ≤ (0 : Int) ∧ 0 < m.N) ∧ (0 ≤ (1 : Int) ∧ 1 < m.N) ∧ (0 : Int) ≠ 1
    omega
  · have hN := q1 (by omega)
    simp only [okN, Bool.and_eq_true, decide_eq_true_eq] at hN
    refine .inr (.inr (.inl ⟨e, hN.1, hN.2, .inr ⟨by omega, by omega, by omega⟩, ?_, by simpa [fixA] using h.len, fun a ha => ?_⟩))
    · rw [rules_iff]
      refine ⟨fun _ => okN_iff.2 hN, fun _ => by simpa [okM, fixA] using hM, fun _ => q3 (by omega), fun _ x hx => ?_, by omega, by omega⟩
      simp only [fixA, List.mem_map] at hx
      obtain ⟨y, _, rfl⟩ := hx
      have h1 := Int.emod_nonneg y.src (by omega : m.N ≠ 0)
      have h2 := Int.emod_lt_of_pos y.src (by omega : 0 < m.N)
      have h3 := Int.emod_nonneg y.dst (by omega : m.N ≠ 0)
      have h4 := Int.emod_lt_of_pos y.dst (by omega : 0 < m.N)
      exact ⟨vtx_iff.2 ⟨h1, h2⟩, vtx_iff.2 ⟨h3, h4⟩⟩
    · simp only [fixA, List.mem_map] at ha
      obtain ⟨y, hy, rfl⟩ := ha
      exact h.cap y hy
  · refine .inr (.inr (.inr (.inl ⟨e, .inr ⟨by omega, by omega, by omega⟩, ?_, by simpa [fixC] using h.len, fun a ha => ?_⟩)))
    · rw [rules_iff]
      refine ⟨fun _ => q1 (by omega), fun _ => by simpa [okM, fixC] using hM, fun _ => q3 (by omega), fun _ x hx => ?_, fun _ x hx => ?_, by omega⟩
      · simp only [fixC, List.mem_map] at hx
        obtain ⟨y, hy, rfl⟩ := hx
        exact q4 (by omega) y hy
      · simp only [fixC, List.mem_map] at hx
        obtain ⟨y, hy, rfl⟩ := hx
        simp only; split <;> omega
    · simp only [fixC, List.mem_map] at ha
      obtain ⟨y, hy, rfl⟩ := ha
      have := h.cap y hy
      simp only; split <;> omega
  · refine .inr (.inr (.inr (.inr ⟨e, .inr ⟨by omega, by omega, by omega⟩, ?_, by simpa [fixS] using h.len, fun a ha => ?_⟩)))
    · rw [rules_iff]
      have hsh : ∀ y, y ∈ m.arcs → 0 ≤ y.cap.fdiv 1024 ∧ y.cap.fdiv 1024 ≤ 9007199254740992 := fun y hy => by
        have h1 := q5 (by omega) y hy
        have h2 := h.cap y hy
        rw [Int.fdiv_eq_ediv_of_nonneg _ (by omega)]
        omega
      refine ⟨fun _ => q1 (by omega), fun _ => by simpa [okM, fixS] using hM, fun _ => q3 (by omega), fun _ x hx => ?_, fun _ x hx => ?_, fun _ => ?_⟩
      · simp only [fixS, List.mem_map] at hx
        obtain ⟨y, hy, rfl⟩ := hx
        exact q4 (by omega) y hy
      · simp only [fixS, List.mem_map] at hx
        obtain ⟨y, hy, rfl⟩ := hx
        exact (hsh y hy).1
      · refine sumT_some _ _ (fun a ha => ?_) ?_
        · simp only [fixS, List.mem_map] at ha
          obtain ⟨y, hy, rfl⟩ := ha
          exact hsh y hy
        · have := h.len
          simp only [fixS, List.length_map, big]; omega
    · simp only [fixS, List.mem_map] at ha
      obtain ⟨y, hy, rfl⟩ := ha
      have h1 := q5 (by omega) y hy
      have := h.cap y hy
      simp only
      rw [Int.fdiv_eq_ediv_of_nonneg _ (by omega)]
      omega

/-! ### A net that lies in memory -/
theorem acells_set (l : List Ar.Arc) : ∀ (i j : Nat) (v : V) (a' : Ar.Arc) (hi : i < l.length), j < 3 → (l[i]).cells.set j v = a'.cells → (acells l).set (i * 3 + j) v = acells (l.set i a') := by
  induction l with
  | nil => intro i j v a' hi; simp at hi
  | cons x l ih =>
    intro i j v a' hi hj h
    cases i with
    | zero =>
      simp only [List.getElem_cons_zero] at h
      simp only [acells, List.flatMap_cons, List.set_cons_zero, Nat.zero_mul, Nat.zero_add]
      rw [← h, List.set_append_left _ _ (by simp [Arc.cells]; omega)]
    | succ i =>
      simp only [List.getElem_cons_succ] at h
      simp only [acells, List.flatMap_cons, List.set_cons_succ]
      rw [List.set_append_right _ _ (by simp [Arc.cells]; omega)]
      have : (i + 1) * 3 + j - (Arc.cells x).length = i * 3 + j := by simp [Arc.cells]; omega
      rw [this]
      have := ih i j v a' (by simpa using hi) hj h
      simp only [acells] at this
      rw [this]
structure MB (B : Nat) (H : Heap) (k3 : Nat) (m : Net) (x : V) : Prop where
  ge : B ≤ k3
  box : H[k3]? = some (nbox m x)
  own : Own3 H B x m.arcs
  ne : ∀ k, x.blk? = some k → k ≠ k3
namespace MB
variable {B k3 : Nat} {H : Heap} {m : Net} {x : V}
theorem app (h : MB B H k3 m x) (G : Heap) : MB B (H ++ G) k3 m x := ⟨h.ge, by rw [List.getElem?_append_left (List.getElem?_eq_some_iff.1 h.box).1]; exact h.box, h.own.app G, h.ne⟩
theorem rd (h : MB B H k3 m x) : ∀ G, rdn (H ++ G) k3 0 4 = some [.int .i64 m.N, .int .i64 m.S, .int .i64 m.T, x] := fun G => by
  simp only [rdn]
  rw [List.getElem?_append_left (List.getElem?_eq_some_iff.1 h.box).1, h.box]; rfl
theorem rd0 (h : MB B H k3 m x) : ∀ G, Ar.rd (H ++ G) k3 0 = some (.int .i64 m.N) := fun G => by
  simp only [Ar.rd]
  rw [List.getElem?_append_left (List.getElem?_eq_some_iff.1 h.box).1, h.box]; rfl
theorem rd3 (h : MB B H k3 m x) : ∀ G, Ar.rd (H ++ G) k3 3 = some x := fun G => by
  simp only [Ar.rd]
  rw [List.getElem?_append_left (List.getElem?_eq_some_iff.1 h.box).1, h.box]; rfl
theorem lt (h : MB B H k3 m x) : k3 < H.length := (List.getElem?_eq_some_iff.1 h.box).1
theorem put (h : MB B H k3 m x) {m' : Net} (hm : m'.arcs = m.arcs) : MB B (H.set k3 (nbox m' x)) k3 m' x :=
  ⟨h.ge, List.getElem?_set_self h.lt, by rw [hm]; exact h.own.frame fun k hk => List.getElem?_set_ne (fun e => h.ne k hk e.symm), h.ne⟩
/-- An arc, read; one of its numbers, written. -/
theorem arc (h : MB B H k3 m x) {i : Nat} (hi : i < m.arcs.length) : ∃ k, x = .sl k 0 m.arcs.length m.arcs.length ∧ B ≤ k ∧ k < H.length ∧ (∀ G, rdn (H ++ G) k (i * 3) 3 = some (m.arcs[i].cells)) ∧
    ∀ j v (a' : Ar.Arc), j < 3 → v.scalar = true → m.arcs[i].cells.set j v = a'.cells → ∃ H', wr H k (i * 3 + j) [v] = some H' ∧ H'.length = H.length ∧ MB B H' k3 { m with arcs := m.arcs.set i a' } x ∧ ∀ k', k' ≠ k → H'[k']? = H[k']? := by
  have hal := h.own.al
  rcases h.own with ⟨_, hn⟩ | ⟨k, md, rfl, hb, hk, hmd⟩
  · rw [hn] at hi; simp at hi
  · have hmd' : md = .gr 3 := by
      rcases hmd with h | ⟨_, hn⟩
      · exact h
      · rw [hn] at hi; simp at hi
    subst hmd'
    have hkl := (List.getElem?_eq_some_iff.1 hk).1
    refine ⟨k, rfl, hb, hkl, fun G => ?_, fun j v a' hj hv ha => ?_⟩
    · obtain ⟨k', o, c, e, _, hr, _⟩ := hal.at hi
      cases e
      simpa using hr G
    · have hw := wr1 (o := i * 3 + j) (v := v) hk rfl (by rw [acells_length]; omega) hv
      rw [acells_set _ i j v a' hi hj ha] at hw
      refine ⟨_, hw, by simp, ⟨h.ge, ?_, .inr ⟨k, .gr 3, by simp, hb, List.getElem?_set_self hkl, .inl rfl⟩, h.ne⟩, fun k' hk' => List.getElem?_set_ne (fun e => hk' e.symm)⟩
      rw [List.getElem?_set_ne (h.ne k rfl)]
      exact h.box
end MB
/-- A row, turned from the front. -/
def mixL (g : Ar.Arc → Ar.Arc) (l : List Ar.Arc) (i : Nat) : List Ar.Arc := (l.take i).map g ++ l.drop i
theorem mixL_length (g : Ar.Arc → Ar.Arc) (l : List Ar.Arc) (i : Nat) (hi : i ≤ l.length) : (mixL g l i).length = l.length := by simp [mixL]; omega
theorem mixL_get (g : Ar.Arc → Ar.Arc) (l : List Ar.Arc) (i : Nat) (hi : i < l.length) (h : i < (mixL g l i).length) : (mixL g l i)[i] = l[i] := by
  simp only [mixL]
  rw [List.getElem_append_right (by simp; omega)]
  simp [Nat.min_eq_left (Nat.le_of_lt hi)]
theorem mixL_set (g : Ar.Arc → Ar.Arc) (l : List Ar.Arc) (i : Nat) (hi : i < l.length) : (mixL g l i).set i (g l[i]) = mixL g l (i + 1) := by
  refine List.ext_getElem (by simp [mixL]; omega) fun j h1 h2 => ?_
  rw [List.getElem_set]
  by_cases e : i = j
  · subst e
    rw [if_pos rfl]
    simp only [mixL]
    rw [List.getElem_append_left (by simp; omega)]
    simp
  · rw [if_neg e]
    simp only [mixL]
    by_cases hj : j < i
    · rw [List.getElem_append_left (by simp; omega), List.getElem_append_left (by simp; omega)]; simp
    · rw [List.getElem_append_right (by simp; omega), List.getElem_append_right (by simp; omega)]
      simp
      congr 1
      omega
theorem mixL_full (g : Ar.Arc → Ar.Arc) (l : List Ar.Arc) : mixL g l l.length = l.map g := by simp [mixL]
end Go.Proofs.Ytpojdgeginigjaa
/- A net, handed in. -/
set_option linter.unusedSimpArgs false
set_option linter.unusedVariables false
namespace Go.Proofs.Ytpojdgeginigjaa
open Go Go.Ar

def i64b (x : Int) : Prop := -9223372036854775808 ≤ x ∧ x ≤ 9223372036854775807
theorem i64_of {x : Int} (h : IntKind.i64.min ≤ x ∧ x ≤ IntKind.i64.max) : i64b x := by
  simp [IntKind.min, IntKind.max, IntKind.bits, IntKind.signed] at h
  exact h
theorem SlOk_Sl {ks : List KE} {H : Heap} {u : V} (h : SlOk ks H u) : Sl u := by
  rcases h with rfl | ⟨k, len, cs, rfl, _⟩
  · exact .inl rfl
  · exact .inr ⟨_, _, _, _, rfl⟩
def A3 : List KE := [.int .i64, .int .i64, .int .i64]
theorem SlOk.AL {H : Heap} {u : V} (h : SlOk A3 H u) : ∃ l, AL H u l ∧ SlG H 3 u ∧ l.length ≤ maxLen ∧ ∀ x, x ∈ l → i64b x.src ∧ i64b x.dst ∧ i64b x.cap := by
  rcases h with rfl | ⟨k, len, cs, rfl, hk, hl, hm, hx⟩
  · exact ⟨[], ⟨rfl, rfl⟩, trivial, by simp, by simp⟩
  · have hl3 : cs.length = len * 3 := hl
    have hz : ∀ i, i < cs.length → ∃ z, cs[i]? = some (.int .i64 z) ∧ i64b z := fun i hi => by
      obtain ⟨e, he, hok⟩ := hx i _ (List.getElem?_eq_getElem hi)
      have hmod : i % A3.length = 0 ∨ i % A3.length = 1 ∨ i % A3.length = 2 := by simp [A3]; omega
      have hee : e = .int .i64 := by
        rcases hmod with h | h | h <;> rw [h] at he <;> simp [A3] at he <;> exact he.symm
      subst hee
      obtain ⟨z, hz, hb⟩ := hok
      exact ⟨z, by rw [List.getElem?_eq_getElem hi, hz], i64_of hb⟩
    let num : V → Int := fun v => match v with | .int _ n => n | _ => 0
    have hn : ∀ i, i < cs.length → cs[i]? = some (.int .i64 (num (cs.getD i .undef))) ∧ i64b (num (cs.getD i .undef)) := fun i hi => by
      obtain ⟨z, h1, h2⟩ := hz i hi
      rw [List.getD_eq_getElem?_getD, h1]
      exact ⟨rfl, h2⟩
    let l : List Ar.Arc := (List.range len).map fun i => ⟨num (cs.getD (i * 3) .undef), num (cs.getD (i * 3 + 1) .undef), num (cs.getD (i * 3 + 2) .undef)⟩
    have hll : l.length = len := by simp [l]
    have hcs : cs = l.flatMap Arc.cells := by
      refine List.ext_getElem? fun i => ?_
      by_cases hi : i < cs.length
      · obtain ⟨q, r, rfl, hr⟩ : ∃ q r, i = q * 3 + r ∧ r < 3 := ⟨i / 3, i % 3, by omega, by omega⟩
        have hil : q < l.length := by omega
        rw [arcs_cell l q r l[q] (List.getElem?_eq_getElem hil) hr, (hn _ hi).1]
        simp only [l, List.getElem_map, List.getElem_range, Arc.cells]
        rcases (by omega : r = 0 ∨ r = 1 ∨ r = 2) with rfl | rfl | rfl <;> rfl
      · have := acells_length l
        simp only [acells] at this
        rw [List.getElem?_eq_none (by omega), List.getElem?_eq_none (by omega)]
    refine ⟨l, ⟨by simp [lenOf, hll], ?_⟩, ⟨Nat.le_refl _, cs, .ro, hk, .inl rfl⟩, by omega, fun x hxm => ?_⟩
    · simp only [cellsOf, rdn, hk]
      rw [if_pos (by omega)]
      simp only [List.drop_zero]
      rw [List.take_of_length_le (by omega), ← hcs]
    · obtain ⟨i, hi, rfl⟩ := List.mem_map.1 hxm
      have hi' : i < len := by simpa using hi
      exact ⟨(hn (i * 3) (by omega)).2, (hn (i * 3 + 1) (by omega)).2, (hn (i * 3 + 2) (by omega)).2⟩

/-- A net, handed in: as it is. -/
structure NetIn (H : Heap) (n : Net) (a : V) : Prop where
  al : AL H a n.arcs
  sg : SlG H 3 a
  sl : Sl a
  len : n.arcs.length ≤ maxLen
  bN : i64b n.N
  bS : i64b n.S
  bT : i64b n.T
  arc : ∀ x, x ∈ n.arcs → i64b x.src ∧ i64b x.dst ∧ i64b x.cap
theorem net_in {H : Heap} {ws : List V} (h : cksOk H [.k (.int .i64), .k (.int .i64), .k (.int .i64), .s [.int .i64, .int .i64, .int .i64]] ws) : ∃ n a, V.agg ws = NV n a ∧ NetIn H n a := by
  obtain ⟨u0, us, rfl⟩ : ∃ a b, ws = a :: b := by cases ws with | nil => exact h.elim | cons a b => exact ⟨a, b, rfl⟩
  obtain ⟨h0, h⟩ := h
  obtain ⟨u1, us, rfl⟩ : ∃ a b, us = a :: b := by cases us with | nil => exact h.elim | cons a b => exact ⟨a, b, rfl⟩
  obtain ⟨h1, h⟩ := h
  obtain ⟨u2, us, rfl⟩ : ∃ a b, us = a :: b := by cases us with | nil => exact h.elim | cons a b => exact ⟨a, b, rfl⟩
  obtain ⟨h2, h⟩ := h
  obtain ⟨u3, us, rfl⟩ : ∃ a b, us = a :: b := by cases us with | nil => exact h.elim | cons a b => exact ⟨a, b, rfl⟩
  obtain ⟨h3, h⟩ := h
  obtain rfl : us = [] := by cases us with | nil => rfl | cons a b => exact h.elim
  obtain ⟨N, rfl, b0⟩ : ∃ n, u0 = .int .i64 n ∧ IntKind.i64.min ≤ n ∧ n ≤ IntKind.i64.max := h0
  obtain ⟨S, rfl, b1⟩ : ∃ n, u1 = .int .i64 n ∧ IntKind.i64.min ≤ n ∧ n ≤ IntKind.i64.max := h1
  obtain ⟨T, rfl, b2⟩ : ∃ n, u2 = .int .i64 n ∧ IntKind.i64.min ≤ n ∧ n ≤ IntKind.i64.max := h2
  have h3' : SlOk A3 H u3 := h3
  obtain ⟨l, k1, k2, k3, k4⟩ := SlOk.AL h3'
  exact ⟨⟨N, S, T, l⟩, u3, rfl, k1, k2, SlOk_Sl h3', k3, i64_of b0, i64_of b1, i64_of b2, k4⟩
end Go.Proofs.Ytpojdgeginigjaa
