/- The flat code of functions. -/
import Derived.Test.YtpojdgeginigjaaMC
import Derived.Test.YtpojdgeginigjaaMF
import Derived.Test.YtpojdgeginigjaaProg
import Derived.KernelRfl
set_option linter.unusedSimpArgs false
set_option linter.unusedVariables false
namespace Go.Proofs.Ytpojdgeginigjaa
open Go Go.Ar
set_option maxRecDepth 100000
def gc10 : MC := (.seq (.reg [⟨(.some 2), (.box 4 (.t 0)), .none⟩, ⟨(.some 4), (.mv (.c (.bool .false))), .none⟩]) (.seq (.reg [⟨(.some 18), (.load 4 .true (.t 2)), .none⟩, ⟨(.some 19), (.call (.c (.fn 31 [] [])) [(.t 18), (.c (.int .i64 40)), (.c (.int .i64 80))]), .none⟩, ⟨.none, (.store 4 (.t 2) (.t 19)), .none⟩]) (.seq (.reg [⟨(.some 20), (.fadr 0 (.t 2)), .none⟩, ⟨(.some 21), (.load 1 .false (.t 20)), .none⟩, ⟨(.some 22), (.fadr 2 (.t 2)), .none⟩, ⟨(.some 23), (.load 1 .false (.t 22)), .none⟩, ⟨(.some 24), (.fadr 1 (.t 2)), .none⟩, ⟨(.some 25), (.load 1 .false (.t 24)), .none⟩, ⟨(.some 26), (.build [(.int .i64 0), (.int .i64 0), (.int .i64 0), .nils] [(0, (1, (.t 21))), (1, (1, (.t 23))), (2, (1, (.t 25)))]), .none⟩, ⟨(.some 5), (.alloc [(.int .i64 0), (.int .i64 0), (.int .i64 0), .nils]), .none⟩, ⟨.none, (.store 4 (.t 5) (.t 26)), .none⟩]) (.seq (.reg [⟨(.some 27), (.fadr 3 (.t 2)), .none⟩, ⟨(.some 28), (.load 1 .false (.t 27)), .none⟩, ⟨(.some 29), (.len (.t 28)), .none⟩, ⟨(.some 30), (.mv (.c (.int .i64 0))), .none⟩]) (.seq (.block 0 (.loop (.seq (.reg [⟨(.some 31), (.bin .lss (.t 30) (.t 29)), .none⟩]) (.seq (.cond (.t 31) .skip (.exit 0)) (.seq (.block 1 (.seq (.reg [⟨(.some 32), (.iadr 3 (.t 28) (.t 30)), .none⟩, ⟨(.some 33), (.load 3 .true (.t 32)), .none⟩, ⟨(.some 7), (.alloc [(.int .i64 0), (.int .i64 0), (.int .i64 0)]), .none⟩, ⟨.none, (.store 3 (.t 7) (.t 33)), .none⟩]) (.reg [⟨(.some 34), (.fadr 3 (.t 5)), .none⟩, ⟨(.some 35), (.load 1 .false (.t 34)), .none⟩, ⟨(.some 36), (.fadr 1 (.t 7)), .none⟩, ⟨(.some 37), (.load 1 .false (.t 36)), .none⟩, ⟨(.some 38), (.fadr 0 (.t 7)), .none⟩, ⟨(.some 39), (.load 1 .false (.t 38)), .none⟩, ⟨(.some 40), (.fadr 2 (.t 7)), .none⟩, ⟨(.some 41), (.load 1 .false (.t 40)), .none⟩, ⟨(.some 42), (.build [(.int .i64 0), (.int .i64 0), (.int .i64 0)] [(0, (1, (.t 37))), (1, (1, (.t 39))), (2, (1, (.t 41)))]), .none⟩, ⟨(.some 43), (.bslice 1 3 [(.int .i64 0), (.int .i64 0), (.int .i64 0)] [(0, (.t 42))]), .none⟩, ⟨(.some 44), (.append 3 24 (.t 35) (.t 43)), .none⟩, ⟨(.some 45), (.fadr 3 (.t 5)), .none⟩, ⟨.none, (.store 1 (.t 45) (.t 44)), .none⟩]))) (.reg [⟨(.some 46), (.bin .add (.t 30) (.c (.int .i64 1))), .none⟩, ⟨(.some 30), (.mv (.t 46)), .none⟩])))))) (.seq (.reg [⟨(.some 47), (.load 4 .true (.t 2)), .none⟩, ⟨(.some 48), (.mv (.t 1)), .none⟩, ⟨(.some 49), (.call (.c (.fn 45 [] [])) [(.t 47), (.t 48)]), .none⟩, ⟨(.some 8), (.mv (.t 49)), .none⟩]) (.seq (.reg [⟨(.some 51), (.load 4 .true (.t 2)), .none⟩, ⟨(.some 52), (.call (.c (.fn 46 [] [])) [(.t 51)]), .none⟩, ⟨(.some 50), (.mv (.t 52)), .none⟩, ⟨(.some 53), (.ext (.t 50) 0), .none⟩, ⟨(.some 54), (.ext (.t 50) 1), .none⟩, ⟨(.some 9), (.alloc [(.int .i64 0), (.int .i64 0), (.int .i64 0), .nils, .nils, .nils, .nils, .nils, .nils]), .none⟩, ⟨.none, (.store 9 (.t 9) (.t 53)), .none⟩, ⟨(.some 10), (.mv (.t 54)), .none⟩]) (.seq (.reg [⟨(.some 56), (.load 4 .true (.t 5)), .none⟩, ⟨(.some 57), (.call (.c (.fn 46 [] [])) [(.t 56)]), .none⟩, ⟨(.some 55), (.mv (.t 57)), .none⟩, ⟨(.some 58), (.ext (.t 55) 0), .none⟩, ⟨(.some 59), (.ext (.t 55) 1), .none⟩, ⟨(.some 11), (.alloc [(.int .i64 0), (.int .i64 0), (.int .i64 0), .nils, .nils, .nils, .nils, .nils, .nils]), .none⟩, ⟨.none, (.store 9 (.t 11) (.t 58)), .none⟩, ⟨(.some 12), (.mv (.t 59)), .none⟩]) (.seq (.reg [⟨(.some 61), (.load 9 .true (.t 9)), .none⟩, ⟨(.some 62), (.mv (.t 8)), .none⟩, ⟨(.some 63), (.call (.c (.fn 47 [] [])) [(.t 61), (.t 62)]), .none⟩, ⟨(.some 60), (.mv (.t 63)), .none⟩, ⟨(.some 64), (.ext (.t 60) 0), .none⟩, ⟨(.some 65), (.ext (.t 60) 1), .none⟩, ⟨(.some 13), (.mv (.t 64)), .none⟩, ⟨(.some 14), (.mv (.t 65)), .none⟩]) (.seq (.reg [⟨(.some 67), (.load 9 .true (.t 11)), .none⟩, ⟨(.some 68), (.mv (.t 8)), .none⟩, ⟨(.some 69), (.call (.c (.fn 47 [] [])) [(.t 67), (.t 68)]), .none⟩, ⟨(.some 66), (.mv (.t 69)), .none⟩, ⟨(.some 70), (.ext (.t 66) 0), .none⟩, ⟨(.some 71), (.ext (.t 66) 1), .none⟩, ⟨(.some 15), (.mv (.t 70)), .none⟩, ⟨(.some 16), (.mv (.t 71)), .none⟩]) (.seq (.reg [⟨(.some 72), (.mv (.t 10)), .none⟩, ⟨(.some 73), (.bin .neq (.t 72) (.c (.int .i64 0))), .none⟩, ⟨(.some 74), (.mv (.t 73)), .none⟩, ⟨(.some 75), (.mv (.t 12)), (.some (74, .false))⟩, ⟨(.some 76), (.bin .neq (.t 75) (.c (.int .i64 0))), (.some (74, .false))⟩, ⟨(.some 77), (.pick (.t 74) (.c (.bool .true)) (.t 76)), .none⟩, ⟨(.some 78), (.mv (.t 77)), .none⟩, ⟨(.some 79), (.mv (.t 14)), (.some (78, .false))⟩, ⟨(.some 80), (.bin .neq (.t 79) (.c (.int .i64 0))), (.some (78, .false))⟩, ⟨(.some 81), (.pick (.t 78) (.c (.bool .true)) (.t 80)), .none⟩, ⟨(.some 82), (.mv (.t 81)), .none⟩, ⟨(.some 83), (.mv (.t 16)), (.some (82, .false))⟩, ⟨(.some 84), (.bin .neq (.t 83) (.c (.int .i64 0))), (.some (82, .false))⟩, ⟨(.some 85), (.pick (.t 82) (.c (.bool .true)) (.t 84)), .none⟩, ⟨(.some 86), (.mv (.t 85)), .none⟩, ⟨(.some 87), (.fadr 3 (.t 9)), (.some (86, .false))⟩, ⟨(.some 88), (.load 1 .false (.t 87)), (.some (86, .false))⟩, ⟨(.some 89), (.fadr 3 (.t 11)), (.some (86, .false))⟩, ⟨(.some 90), (.load 1 .false (.t 89)), (.some (86, .false))⟩, ⟨(.some 91), (.call (.c (.fn 48 [] [])) [(.t 88), (.t 90)]), (.some (86, .false))⟩, ⟨(.some 92), (.not (.t 91)), (.some (86, .false))⟩, ⟨(.some 93), (.pick (.t 86) (.c (.bool .true)) (.t 92)), .none⟩, ⟨(.some 94), (.mv (.t 93)), .none⟩, ⟨(.some 95), (.fadr 7 (.t 9)), (.some (94, .false))⟩, ⟨(.some 96), (.load 1 .false (.t 95)), (.some (94, .false))⟩, ⟨(.some 97), (.fadr 7 (.t 11)), (.some (94, .false))⟩, ⟨(.some 98), (.load 1 .false (.t 97)), (.some (94, .false))⟩, ⟨(.some 99), (.call (.c (.fn 48 [] [])) [(.t 96), (.t 98)]), (.some (94, .false))⟩, ⟨(.some 100), (.not (.t 99)), (.some (94, .false))⟩, ⟨(.some 101), (.pick (.t 94) (.c (.bool .true)) (.t 100)), .none⟩, ⟨(.some 102), (.mv (.t 101)), .none⟩, ⟨(.some 103), (.fadr 4 (.t 9)), (.some (102, .false))⟩, ⟨(.some 104), (.load 1 .false (.t 103)), (.some (102, .false))⟩, ⟨(.some 105), (.fadr 4 (.t 11)), (.some (102, .false))⟩, ⟨(.some 106), (.load 1 .false (.t 105)), (.some (102, .false))⟩, ⟨(.some 107), (.call (.c (.fn 48 [] [])) [(.t 104), (.t 106)]), (.some (102, .false))⟩, ⟨(.some 108), (.not (.t 107)), (.some (102, .false))⟩, ⟨(.some 109), (.pick (.t 102) (.c (.bool .true)) (.t 108)), .none⟩, ⟨(.some 110), (.mv (.t 109)), .none⟩, ⟨(.some 111), (.fadr 5 (.t 9)), (.some (110, .false))⟩, ⟨(.some 112), (.load 1 .false (.t 111)), (.some (110, .false))⟩, ⟨(.some 113), (.fadr 5 (.t 11)), (.some (110, .false))⟩, ⟨(.some 114), (.load 1 .false (.t 113)), (.some (110, .false))⟩, ⟨(.some 115), (.call (.c (.fn 48 [] [])) [(.t 112), (.t 114)]), (.some (110, .false))⟩, ⟨(.some 116), (.not (.t 115)), (.some (110, .false))⟩, ⟨(.some 117), (.pick (.t 110) (.c (.bool .true)) (.t 116)), .none⟩]) (.seq (.cond (.t 117) (.seq (.reg [⟨(.some 4), (.mv (.c (.bool .false))), .none⟩]) .ret) .skip) (.seq (.reg [⟨(.some 118), (.fadr 8 (.t 9)), .none⟩, ⟨(.some 119), (.load 1 .false (.t 118)), .none⟩, ⟨(.some 120), (.len (.t 119)), .none⟩, ⟨(.some 121), (.mv (.c (.int .i64 0))), .none⟩]) (.seq (.block 2 (.loop (.seq (.reg [⟨(.some 122), (.bin .lss (.t 121) (.t 120)), .none⟩]) (.seq (.cond (.t 122) .skip (.exit 2)) (.seq (.block 3 (.seq (.reg [⟨(.some 123), (.mv (.t 121)), .none⟩, ⟨(.some 17), (.mv (.t 123)), .none⟩]) (.seq (.dreg 0 [(.plain, ⟨(.some 124), (.fadr 8 (.t 9)), .none⟩), (.plain, ⟨(.some 125), (.load 1 .false (.t 124)), .none⟩), (.plain, ⟨(.some 126), (.mv (.t 17)), .none⟩), (.plain, ⟨(.some 127), (.iadr 1 (.t 125) (.t 126)), .none⟩), (.plain, ⟨(.some 128), (.load 1 .false (.t 127)), .none⟩), (.plain, ⟨(.some 129), (.fadr 8 (.t 11)), .none⟩), (.plain, ⟨(.some 130), (.load 1 .false (.t 129)), .none⟩), (.plain, ⟨(.some 131), (.mv (.t 17)), .none⟩), (.plain, ⟨(.some 132), (.iadr 1 (.t 130) (.t 131)), .none⟩), (.plain, ⟨(.some 133), (.load 1 .false (.t 132)), .none⟩), (.plain, ⟨(.some 134), (.eq .false .bool (.t 128) (.t 133)), .none⟩), (.plain, ⟨(.some 135), (.mv (.t 134)), .none⟩), (.plain, ⟨(.some 136), (.mv (.t 13)), (.some (135, .false))⟩), (.plain, ⟨(.some 137), (.mv (.t 17)), (.some (135, .false))⟩), (.plain, ⟨(.some 138), (.iadr 1 (.t 136) (.t 137)), (.some (135, .false))⟩), (.plain, ⟨(.some 139), (.load 1 .false (.t 138)), (.some (135, .false))⟩), (.plain, ⟨(.some 140), (.mv (.t 15)), (.some (135, .false))⟩), (.plain, ⟨(.some 141), (.fadr 5 (.t 9)), (.some (135, .false))⟩), (.plain, ⟨(.some 142), (.load 1 .false (.t 141)), (.some (135, .false))⟩), (.plain, ⟨(.some 143), (.mv (.t 17)), (.some (135, .false))⟩), (.plain, ⟨(.some 144), (.iadr 1 (.t 142) (.t 143)), (.some (135, .false))⟩), (.plain, ⟨(.some 145), (.load 1 .false (.t 144)), (.some (135, .false))⟩), (.plain, ⟨(.some 146), (.iadr 1 (.t 140) (.t 145)), (.some (135, .false))⟩), (.plain, ⟨(.some 147), (.load 1 .false (.t 146)), (.some (135, .false))⟩), (.plain, ⟨(.some 148), (.bin .neq (.t 139) (.t 147)), (.some (135, .false))⟩), (.plain, ⟨(.some 149), (.pick (.t 135) (.c (.bool .true)) (.t 148)), .none⟩)] []) (.cond (.t 149) (.seq (.reg [⟨(.some 4), (.mv (.c (.bool .false))), .none⟩]) .ret) .skip)))) (.reg [⟨(.some 150), (.bin .add (.t 121) (.c (.int .i64 1))), .none⟩, ⟨(.some 121), (.mv (.t 150)), .none⟩])))))) (.seq (.dreg 0 [(.plain, ⟨(.some 151), (.fadr 8 (.t 9)), .none⟩), (.plain, ⟨(.some 152), (.load 1 .false (.t 151)), .none⟩), (.plain, ⟨(.some 153), (.len (.t 152)), .none⟩), (.plain, ⟨(.some 154), (.load 9 .true (.t 9)), .none⟩), ((.pcall []), ⟨(.some 155), (.call (.c (.fn 49 [] [])) [(.t 154)]), .none⟩), (.plain, ⟨(.some 156), (.bin .eql (.t 153) (.t 155)), .none⟩), (.plain, ⟨(.some 157), (.mv (.t 156)), .none⟩), (.plain, ⟨(.some 158), (.fadr 8 (.t 11)), (.some (157, .true))⟩), (.plain, ⟨(.some 159), (.load 1 .false (.t 158)), (.some (157, .true))⟩), (.plain, ⟨(.some 160), (.len (.t 159)), (.some (157, .true))⟩), (.plain, ⟨(.some 161), (.fadr 8 (.t 9)), (.some (157, .true))⟩), (.plain, ⟨(.some 162), (.load 1 .false (.t 161)), (.some (157, .true))⟩), (.plain, ⟨(.some 163), (.len (.t 162)), (.some (157, .true))⟩), (.plain, ⟨(.some 164), (.bin .eql (.t 160) (.t 163)), (.some (157, .true))⟩), (.plain, ⟨(.some 165), (.pick (.t 157) (.t 164) (.c (.bool .false))), .none⟩), (.plain, ⟨(.some 166), (.mv (.t 165)), .none⟩), (.plain, ⟨(.some 167), (.call (.c (.fn 50 [] [])) []), (.some (166, .true))⟩), (.plain, ⟨(.some 168), (.pick (.t 166) (.t 167) (.c (.bool .false))), .none⟩), (.plain, ⟨(.some 4), (.mv (.t 168)), .none⟩)] []) .ret)))))))))))))))
theorem nc10 : nc Try.prog 10 = some (2, [(.t 4)], gc10) := by kernel_rfl
def gc11 : MC := (.seq (.reg [⟨(.some 4), (.box 4 (.t 0)), .none⟩, ⟨(.some 8), (.mv (.c (.bool .false))), .none⟩]) (.seq (.reg [⟨(.some 23), (.load 4 .true (.t 4)), .none⟩, ⟨(.some 24), (.call (.c (.fn 31 [] [])) [(.t 23), (.c (.int .i64 40)), (.c (.int .i64 80))]), .none⟩, ⟨.none, (.store 4 (.t 4) (.t 24)), .none⟩]) (.seq (.reg [⟨(.some 25), (.load 4 .true (.t 4)), .none⟩, ⟨(.some 26), (.mv (.t 1)), .none⟩, ⟨(.some 27), (.call (.c (.fn 45 [] [])) [(.t 25), (.t 26)]), .none⟩, ⟨(.some 9), (.mv (.t 27)), .none⟩]) (.seq (.reg [⟨(.some 29), (.load 4 .true (.t 4)), .none⟩, ⟨(.some 30), (.call (.c (.fn 46 [] [])) [(.t 29)]), .none⟩, ⟨(.some 28), (.mv (.t 30)), .none⟩, ⟨(.some 31), (.ext (.t 28) 0), .none⟩, ⟨(.some 32), (.ext (.t 28) 1), .none⟩, ⟨(.some 10), (.alloc [(.int .i64 0), (.int .i64 0), (.int .i64 0), .nils, .nils, .nils, .nils, .nils, .nils]), .none⟩, ⟨.none, (.store 9 (.t 10) (.t 31)), .none⟩, ⟨(.some 11), (.mv (.t 32)), .none⟩]) (.seq (.reg [⟨(.some 34), (.load 9 .true (.t 10)), .none⟩, ⟨(.some 35), (.mv (.t 9)), .none⟩, ⟨(.some 36), (.call (.c (.fn 47 [] [])) [(.t 34), (.t 35)]), .none⟩, ⟨(.some 33), (.mv (.t 36)), .none⟩, ⟨(.some 37), (.ext (.t 33) 0), .none⟩, ⟨(.some 38), (.ext (.t 33) 1), .none⟩, ⟨(.some 12), (.mv (.t 37)), .none⟩, ⟨(.some 13), (.mv (.t 38)), .none⟩]) (.seq (.reg [⟨(.some 39), (.mv (.t 11)), .none⟩, ⟨(.some 40), (.bin .neq (.t 39) (.c (.int .i64 0))), .none⟩, ⟨(.some 41), (.mv (.t 40)), .none⟩, ⟨(.some 42), (.mv (.t 13)), (.some (41, .false))⟩, ⟨(.some 43), (.bin .neq (.t 42) (.c (.int .i64 0))), (.some (41, .false))⟩, ⟨(.some 44), (.pick (.t 41) (.c (.bool .true)) (.t 43)), .none⟩, ⟨(.some 45), (.mv (.t 44)), .none⟩, ⟨(.some 46), (.mv (.t 12)), (.some (45, .false))⟩, ⟨(.some 47), (.len (.t 46)), (.some (45, .false))⟩, ⟨(.some 48), (.load 9 .true (.t 10)), (.some (45, .false))⟩, ⟨(.some 49), (.call (.c (.fn 49 [] [])) [(.t 48)]), (.some (45, .false))⟩, ⟨(.some 50), (.bin .neq (.t 47) (.t 49)), (.some (45, .false))⟩, ⟨(.some 51), (.pick (.t 45) (.c (.bool .true)) (.t 50)), .none⟩]) (.seq (.cond (.t 51) (.seq (.reg [⟨(.some 8), (.mv (.c (.bool .false))), .none⟩]) .ret) .skip) (.seq (.reg [⟨(.some 52), (.mv (.t 12)), .none⟩, ⟨(.some 53), (.len (.t 52)), .none⟩, ⟨(.some 54), (.mv (.c (.int .i64 0))), .none⟩]) (.seq (.block 0 (.loop (.seq (.reg [⟨(.some 55), (.bin .lss (.t 54) (.t 53)), .none⟩]) (.seq (.cond (.t 55) .skip (.exit 0)) (.seq (.block 1 (.seq (.reg [⟨(.some 56), (.mv (.t 54)), .none⟩, ⟨(.some 57), (.iadr 1 (.t 52) (.t 54)), .none⟩, ⟨(.some 58), (.load 1 .false (.t 57)), .none⟩, ⟨(.some 14), (.mv (.t 56)), .none⟩, ⟨(.some 15), (.mv (.t 58)), .none⟩]) (.seq (.dreg 0 [(.plain, ⟨(.some 59), (.mv (.t 15)), .none⟩), (.plain, ⟨(.some 60), (.bin .lss (.t 59) (.c (.int .i64 0))), .none⟩), (.plain, ⟨(.some 61), (.mv (.t 60)), .none⟩), (.plain, ⟨(.some 62), (.mv (.t 12)), (.some (61, .false))⟩), (.plain, ⟨(.some 63), (.fadr 5 (.t 10)), (.some (61, .false))⟩), (.plain, ⟨(.some 64), (.load 1 .false (.t 63)), (.some (61, .false))⟩), (.plain, ⟨(.some 65), (.mv (.t 14)), (.some (61, .false))⟩), (.plain, ⟨(.some 66), (.iadr 1 (.t 64) (.t 65)), (.some (61, .false))⟩), (.plain, ⟨(.some 67), (.load 1 .false (.t 66)), (.some (61, .false))⟩), (.plain, ⟨(.some 68), (.iadr 1 (.t 62) (.t 67)), (.some (61, .false))⟩), (.plain, ⟨(.some 69), (.load 1 .false (.t 68)), (.some (61, .false))⟩), (.plain, ⟨(.some 70), (.fadr 3 (.t 4)), (.some (61, .false))⟩), (.plain, ⟨(.some 71), (.load 1 .false (.t 70)), (.some (61, .false))⟩), (.plain, ⟨(.some 72), (.fadr 7 (.t 10)), (.some (61, .false))⟩), (.plain, ⟨(.some 73), (.load 1 .false (.t 72)), (.some (61, .false))⟩), (.plain, ⟨(.some 74), (.mv (.t 14)), (.some (61, .false))⟩), (.plain, ⟨(.some 75), (.iadr 1 (.t 73) (.t 74)), (.some (61, .false))⟩), (.plain, ⟨(.some 76), (.load 1 .false (.t 75)), (.some (61, .false))⟩), (.plain, ⟨(.some 77), (.iadr 3 (.t 71) (.t 76)), (.some (61, .false))⟩), (.plain, ⟨(.some 78), (.fadr 2 (.t 77)), (.some (61, .false))⟩), (.plain, ⟨(.some 79), (.load 1 .false (.t 78)), (.some (61, .false))⟩), (.plain, ⟨(.some 80), (.mv (.t 15)), (.some (61, .false))⟩), (.plain, ⟨(.some 81), (.bin .sub (.t 79) (.t 80)), (.some (61, .false))⟩), (.plain, ⟨(.some 82), (.bin .neq (.t 69) (.t 81)), (.some (61, .false))⟩), (.plain, ⟨(.some 83), (.pick (.t 61) (.c (.bool .true)) (.t 82)), .none⟩)] []) (.cond (.t 83) (.seq (.reg [⟨(.some 8), (.mv (.c (.bool .false))), .none⟩]) .ret) .skip)))) (.reg [⟨(.some 84), (.bin .add (.t 54) (.c (.int .i64 1))), .none⟩, ⟨(.some 54), (.mv (.t 84)), .none⟩])))))) (.seq (.reg [⟨(.some 86), (.load 9 .true (.t 10)), .none⟩, ⟨(.some 87), (.mv (.t 12)), .none⟩, ⟨(.some 88), (.mv (.t 9)), .none⟩, ⟨(.some 89), (.len (.t 88)), .none⟩, ⟨(.some 90), (.call (.c (.fn 51 [] [])) [(.t 86), (.t 87), (.t 89)]), .none⟩, ⟨(.some 85), (.mv (.t 90)), .none⟩, ⟨(.some 91), (.ext (.t 85) 0), .none⟩, ⟨(.some 92), (.ext (.t 85) 1), .none⟩, ⟨(.some 16), (.mv (.t 91)), .none⟩, ⟨(.some 17), (.mv (.t 92)), .none⟩]) (.seq (.reg [⟨(.some 93), (.mv (.t 17)), .none⟩, ⟨(.some 94), (.bin .neq (.t 93) (.c (.int .i64 0))), .none⟩, ⟨(.some 95), (.mv (.t 94)), .none⟩, ⟨(.some 96), (.mv (.t 16)), (.some (95, .false))⟩, ⟨(.some 97), (.mv (.t 9)), (.some (95, .false))⟩, ⟨(.some 98), (.call (.c (.fn 52 [] [])) [(.t 96), (.t 97)]), (.some (95, .false))⟩, ⟨(.some 99), (.not (.t 98)), (.some (95, .false))⟩, ⟨(.some 100), (.pick (.t 95) (.c (.bool .true)) (.t 99)), .none⟩]) (.seq (.cond (.t 100) (.seq (.reg [⟨(.some 8), (.mv (.c (.bool .false))), .none⟩]) .ret) .skip) (.seq (.reg [⟨(.some 101), (.mv (.t 12)), .none⟩, ⟨(.some 102), (.len (.t 101)), .none⟩, ⟨(.some 103), (.bin .eql (.t 102) (.c (.int .i64 0))), .none⟩]) (.seq (.cond (.t 103) (.seq (.reg [⟨(.some 104), (.call (.c (.fn 50 [] [])) []), .none⟩, ⟨(.some 8), (.mv (.t 104)), .none⟩]) .ret) .skip) (.seq (.dreg 0 [(.plain, ⟨(.some 105), (.fadr 7 (.t 10)), .none⟩), (.plain, ⟨(.some 106), (.load 1 .false (.t 105)), .none⟩), (.plain, ⟨(.some 107), (.mv (.t 2)), .none⟩), (.plain, ⟨(.some 108), (.conv .i64 (.t 107)), .none⟩), (.plain, ⟨(.some 109), (.mv (.t 12)), .none⟩), (.plain, ⟨(.some 110), (.len (.t 109)), .none⟩), (.plain, ⟨(.some 111), (.bin .rem (.t 108) (.t 110)), .none⟩), (.plain, ⟨(.some 112), (.iadr 1 (.t 106) (.t 111)), .none⟩), (.plain, ⟨(.some 113), (.load 1 .false (.t 112)), .none⟩), (.plain, ⟨(.some 18), (.mv (.t 113)), .none⟩)] []) (.seq (.reg [⟨(.some 114), (.mv (.t 9)), .none⟩, ⟨(.some 115), (.mv (.t 18)), .none⟩, ⟨(.some 116), (.mv (.t 3)), .none⟩, ⟨(.some 117), (.iadr 1 (.t 114) (.t 115)), .none⟩, ⟨.none, (.store 1 (.t 117) (.t 116)), .none⟩]) (.seq (.reg [⟨(.some 119), (.load 9 .true (.t 10)), .none⟩, ⟨(.some 120), (.mv (.t 9)), .none⟩, ⟨(.some 121), (.call (.c (.fn 47 [] [])) [(.t 119), (.t 120)]), .none⟩, ⟨(.some 118), (.mv (.t 121)), .none⟩, ⟨(.some 122), (.ext (.t 118) 0), .none⟩, ⟨(.some 123), (.ext (.t 118) 1), .none⟩, ⟨(.some 19), (.mv (.t 122)), .none⟩, ⟨(.some 20), (.mv (.t 123)), .none⟩]) (.seq (.reg [⟨(.some 124), (.mv (.t 12)), .none⟩, ⟨(.some 125), (.mv (.t 2)), .none⟩, ⟨(.some 126), (.conv .i64 (.t 125)), .none⟩, ⟨(.some 127), (.mv (.t 12)), .none⟩, ⟨(.some 128), (.len (.t 127)), .none⟩, ⟨(.some 129), (.bin .rem (.t 126) (.t 128)), .none⟩, ⟨(.some 130), (.iadr 1 (.t 124) (.t 129)), .none⟩, ⟨(.some 131), (.load 1 .false (.t 130)), .none⟩, ⟨(.some 132), (.bin .add (.t 131) (.c (.int .i64 1))), .none⟩, ⟨(.some 133), (.iadr 1 (.t 124) (.t 129)), .none⟩, ⟨.none, (.store 1 (.t 133) (.t 132)), .none⟩]) (.seq (.reg [⟨(.some 135), (.load 9 .true (.t 10)), .none⟩, ⟨(.some 136), (.mv (.t 12)), .none⟩, ⟨(.some 137), (.mv (.t 9)), .none⟩, ⟨(.some 138), (.len (.t 137)), .none⟩, ⟨(.some 139), (.call (.c (.fn 51 [] [])) [(.t 135), (.t 136), (.t 138)]), .none⟩, ⟨(.some 134), (.mv (.t 139)), .none⟩, ⟨(.some 140), (.ext (.t 134) 0), .none⟩, ⟨(.some 141), (.ext (.t 134) 1), .none⟩, ⟨(.some 21), (.mv (.t 140)), .none⟩, ⟨(.some 22), (.mv (.t 141)), .none⟩]) (.seq (.reg [⟨(.some 142), (.mv (.t 20)), .none⟩, ⟨(.some 143), (.bin .eql (.t 142) (.c (.int .i64 0))), .none⟩, ⟨(.some 144), (.mv (.t 3)), .none⟩, ⟨(.some 145), (.bin .geq (.t 144) (.c (.int .i64 0))), .none⟩, ⟨(.some 146), (.mv (.t 145)), .none⟩, ⟨(.some 147), (.mv (.t 3)), (.some (146, .true))⟩, ⟨(.some 148), (.fadr 3 (.t 4)), (.some (146, .true))⟩, ⟨(.some 149), (.load 1 .false (.t 148)), (.some (146, .true))⟩, ⟨(.some 150), (.mv (.t 18)), (.some (146, .true))⟩, ⟨(.some 151), (.iadr 3 (.t 149) (.t 150)), (.some (146, .true))⟩, ⟨(.some 152), (.fadr 2 (.t 151)), (.some (146, .true))⟩, ⟨(.some 153), (.load 1 .false (.t 152)), (.some (146, .true))⟩, ⟨(.some 154), (.bin .leq (.t 147) (.t 153)), (.some (146, .true))⟩, ⟨(.some 155), (.pick (.t 146) (.t 154) (.c (.bool .false))), .none⟩, ⟨(.some 156), (.eq .false .bool (.t 143) (.t 155)), .none⟩, ⟨(.some 157), (.mv (.t 156)), .none⟩, ⟨(.some 158), (.mv (.t 22)), (.some (157, .true))⟩, ⟨(.some 159), (.bin .eql (.t 158) (.c (.int .i64 20))), (.some (157, .true))⟩, ⟨(.some 160), (.pick (.t 157) (.t 159) (.c (.bool .false))), .none⟩, ⟨(.some 161), (.mv (.t 160)), .none⟩, ⟨(.some 162), (.call (.c (.fn 50 [] [])) []), (.some (161, .true))⟩, ⟨(.some 163), (.pick (.t 161) (.t 162) (.c (.bool .false))), .none⟩, ⟨(.some 8), (.mv (.t 163)), .none⟩]) .ret))))))))))))))))))))
theorem nc11 : nc Try.prog 11 = some (4, [(.t 8)], gc11) := by kernel_rfl
def gc12 : MC := (.seq (.reg [⟨(.some 1), (.box 4 (.t 0)), .none⟩, ⟨(.some 2), (.mv (.c (.bool .false))), .none⟩]) (.seq (.reg [⟨(.some 12), (.load 4 .true (.t 1)), .none⟩, ⟨(.some 13), (.call (.c (.fn 31 [] [])) [(.t 12), (.c (.int .i64 40)), (.c (.int .i64 80))]), .none⟩, ⟨.none, (.store 4 (.t 1) (.t 13)), .none⟩]) (.seq (.reg [⟨(.some 15), (.load 4 .true (.t 1)), .none⟩, ⟨(.some 16), (.call (.c (.fn 46 [] [])) [(.t 15)]), .none⟩, ⟨(.some 14), (.mv (.t 16)), .none⟩, ⟨(.some 17), (.ext (.t 14) 0), .none⟩, ⟨(.some 18), (.ext (.t 14) 1), .none⟩, ⟨(.some 3), (.alloc [(.int .i64 0), (.int .i64 0), (.int .i64 0), .nils, .nils, .nils, .nils, .nils, .nils]), .none⟩, ⟨.none, (.store 9 (.t 3) (.t 17)), .none⟩, ⟨(.some 4), (.mv (.t 18)), .none⟩]) (.seq (.dreg 0 [(.plain, ⟨(.some 19), (.mv (.t 4)), .none⟩), (.plain, ⟨(.some 20), (.bin .neq (.t 19) (.c (.int .i64 0))), .none⟩), (.plain, ⟨(.some 21), (.mv (.t 20)), .none⟩), (.plain, ⟨(.some 22), (.fadr 5 (.t 3)), (.some (21, .false))⟩), (.plain, ⟨(.some 23), (.load 1 .false (.t 22)), (.some (21, .false))⟩), (.plain, ⟨(.some 24), (.len (.t 23)), (.some (21, .false))⟩), (.plain, ⟨(.some 25), (.load 9 .true (.t 3)), (.some (21, .false))⟩), ((.pcall []), ⟨(.some 26), (.call (.c (.fn 49 [] [])) [(.t 25)]), (.some (21, .false))⟩), (.plain, ⟨(.some 27), (.bin .neq (.t 24) (.t 26)), (.some (21, .false))⟩), (.plain, ⟨(.some 28), (.pick (.t 21) (.c (.bool .true)) (.t 27)), .none⟩), (.plain, ⟨(.some 29), (.mv (.t 28)), .none⟩), (.plain, ⟨(.some 30), (.fadr 6 (.t 3)), (.some (29, .false))⟩), (.plain, ⟨(.some 31), (.load 1 .false (.t 30)), (.some (29, .false))⟩), (.plain, ⟨(.some 32), (.len (.t 31)), (.some (29, .false))⟩), (.plain, ⟨(.some 33), (.load 9 .true (.t 3)), (.some (29, .false))⟩), ((.pcall []), ⟨(.some 34), (.call (.c (.fn 49 [] [])) [(.t 33)]), (.some (29, .false))⟩), (.plain, ⟨(.some 35), (.bin .neq (.t 32) (.t 34)), (.some (29, .false))⟩), (.plain, ⟨(.some 36), (.pick (.t 29) (.c (.bool .true)) (.t 35)), .none⟩), (.plain, ⟨(.some 37), (.mv (.t 36)), .none⟩), (.plain, ⟨(.some 38), (.fadr 8 (.t 3)), (.some (37, .false))⟩), (.plain, ⟨(.some 39), (.load 1 .false (.t 38)), (.some (37, .false))⟩), (.plain, ⟨(.some 40), (.len (.t 39)), (.some (37, .false))⟩), (.plain, ⟨(.some 41), (.load 9 .true (.t 3)), (.some (37, .false))⟩), ((.pcall []), ⟨(.some 42), (.call (.c (.fn 49 [] [])) [(.t 41)]), (.some (37, .false))⟩), (.plain, ⟨(.some 43), (.bin .neq (.t 40) (.t 42)), (.some (37, .false))⟩), (.plain, ⟨(.some 44), (.pick (.t 37) (.c (.bool .true)) (.t 43)), .none⟩), (.plain, ⟨(.some 45), (.mv (.t 44)), .none⟩), (.plain, ⟨(.some 46), (.fadr 7 (.t 3)), (.some (45, .false))⟩), (.plain, ⟨(.some 47), (.load 1 .false (.t 46)), (.some (45, .false))⟩), (.plain, ⟨(.some 48), (.len (.t 47)), (.some (45, .false))⟩), (.plain, ⟨(.some 49), (.load 9 .true (.t 3)), (.some (45, .false))⟩), ((.pcall []), ⟨(.some 50), (.call (.c (.fn 49 [] [])) [(.t 49)]), (.some (45, .false))⟩), (.plain, ⟨(.some 51), (.bin .neq (.t 48) (.t 50)), (.some (45, .false))⟩), (.plain, ⟨(.some 52), (.pick (.t 45) (.c (.bool .true)) (.t 51)), .none⟩)] []) (.seq (.cond (.t 52) (.seq (.reg [⟨(.some 2), (.mv (.c (.bool .false))), .none⟩]) .ret) .skip) (.seq (.reg [⟨(.some 53), (.load 9 .true (.t 3)), .none⟩, ⟨(.some 54), (.call (.c (.fn 49 [] [])) [(.t 53)]), .none⟩, ⟨(.some 55), (.mv (.c (.int .i64 0))), .none⟩]) (.seq (.block 0 (.loop (.seq (.reg [⟨(.some 56), (.bin .lss (.t 55) (.t 54)), .none⟩]) (.seq (.cond (.t 56) .skip (.exit 0)) (.seq (.block 1 (.seq (.reg [⟨(.some 57), (.mv (.t 55)), .none⟩, ⟨(.some 5), (.mv (.t 57)), .none⟩]) (.seq (.reg [⟨(.some 58), (.fadr 5 (.t 3)), .none⟩, ⟨(.some 59), (.load 1 .false (.t 58)), .none⟩, ⟨(.some 60), (.mv (.t 5)), .none⟩, ⟨(.some 61), (.iadr 1 (.t 59) (.t 60)), .none⟩, ⟨(.some 62), (.load 1 .false (.t 61)), .none⟩, ⟨(.some 6), (.mv (.t 62)), .none⟩]) (.seq (.dreg 0 [(.plain, ⟨(.some 63), (.mv (.t 6)), .none⟩), (.plain, ⟨(.some 64), (.bin .lss (.t 63) (.c (.int .i64 0))), .none⟩), (.plain, ⟨(.some 65), (.mv (.t 64)), .none⟩), (.plain, ⟨(.some 66), (.mv (.t 6)), (.some (65, .false))⟩), (.plain, ⟨(.some 67), (.load 9 .true (.t 3)), (.some (65, .false))⟩), (.plain, ⟨(.some 68), (.call (.c (.fn 49 [] [])) [(.t 67)]), (.some (65, .false))⟩), (.plain, ⟨(.some 69), (.bin .geq (.t 66) (.t 68)), (.some (65, .false))⟩), (.plain, ⟨(.some 70), (.pick (.t 65) (.c (.bool .true)) (.t 69)), .none⟩), (.plain, ⟨(.some 71), (.mv (.t 70)), .none⟩), (.plain, ⟨(.some 72), (.mv (.t 6)), (.some (71, .false))⟩), (.plain, ⟨(.some 73), (.mv (.t 5)), (.some (71, .false))⟩), (.plain, ⟨(.some 74), (.bin .eql (.t 72) (.t 73)), (.some (71, .false))⟩), (.plain, ⟨(.some 75), (.pick (.t 71) (.c (.bool .true)) (.t 74)), .none⟩), (.plain, ⟨(.some 76), (.mv (.t 75)), .none⟩), (.plain, ⟨(.some 77), (.fadr 5 (.t 3)), (.some (76, .false))⟩), (.plain, ⟨(.some 78), (.load 1 .false (.t 77)), (.some (76, .false))⟩), (.plain, ⟨(.some 79), (.mv (.t 6)), (.some (76, .false))⟩), (.plain, ⟨(.some 80), (.iadr 1 (.t 78) (.t 79)), (.some (76, .false))⟩), (.plain, ⟨(.some 81), (.load 1 .false (.t 80)), (.some (76, .false))⟩), (.plain, ⟨(.some 82), (.mv (.t 5)), (.some (76, .false))⟩), (.plain, ⟨(.some 83), (.bin .neq (.t 81) (.t 82)), (.some (76, .false))⟩), (.plain, ⟨(.some 84), (.pick (.t 76) (.c (.bool .true)) (.t 83)), .none⟩), (.plain, ⟨(.some 85), (.mv (.t 84)), .none⟩), (.plain, ⟨(.some 86), (.fadr 7 (.t 3)), (.some (85, .false))⟩), (.plain, ⟨(.some 87), (.load 1 .false (.t 86)), (.some (85, .false))⟩), (.plain, ⟨(.some 88), (.mv (.t 5)), (.some (85, .false))⟩), (.plain, ⟨(.some 89), (.iadr 1 (.t 87) (.t 88)), (.some (85, .false))⟩), (.plain, ⟨(.some 90), (.load 1 .false (.t 89)), (.some (85, .false))⟩), (.plain, ⟨(.some 91), (.fadr 7 (.t 3)), (.some (85, .false))⟩), (.plain, ⟨(.some 92), (.load 1 .false (.t 91)), (.some (85, .false))⟩), (.plain, ⟨(.some 93), (.mv (.t 6)), (.some (85, .false))⟩), (.plain, ⟨(.some 94), (.iadr 1 (.t 92) (.t 93)), (.some (85, .false))⟩), (.plain, ⟨(.some 95), (.load 1 .false (.t 94)), (.some (85, .false))⟩), (.plain, ⟨(.some 96), (.bin .neq (.t 90) (.t 95)), (.some (85, .false))⟩), (.plain, ⟨(.some 97), (.pick (.t 85) (.c (.bool .true)) (.t 96)), .none⟩), (.plain, ⟨(.some 98), (.mv (.t 97)), .none⟩), (.plain, ⟨(.some 99), (.fadr 8 (.t 3)), (.some (98, .false))⟩), (.plain, ⟨(.some 100), (.load 1 .false (.t 99)), (.some (98, .false))⟩), (.plain, ⟨(.some 101), (.mv (.t 5)), (.some (98, .false))⟩), (.plain, ⟨(.some 102), (.iadr 1 (.t 100) (.t 101)), (.some (98, .false))⟩), (.plain, ⟨(.some 103), (.load 1 .false (.t 102)), (.some (98, .false))⟩), (.plain, ⟨(.some 104), (.fadr 8 (.t 3)), (.some (98, .false))⟩), (.plain, ⟨(.some 105), (.load 1 .false (.t 104)), (.some (98, .false))⟩), (.plain, ⟨(.some 106), (.mv (.t 6)), (.some (98, .false))⟩), (.plain, ⟨(.some 107), (.iadr 1 (.t 105) (.t 106)), (.some (98, .false))⟩), (.plain, ⟨(.some 108), (.load 1 .false (.t 107)), (.some (98, .false))⟩), (.plain, ⟨(.some 109), (.eq .false .bool (.t 103) (.t 108)), (.some (98, .false))⟩), (.plain, ⟨(.some 110), (.pick (.t 98) (.c (.bool .true)) (.t 109)), .none⟩)] []) (.seq (.cond (.t 110) (.seq (.reg [⟨(.some 2), (.mv (.c (.bool .false))), .none⟩]) .ret) .skip) (.seq (.reg [⟨(.some 112), (.load 9 .true (.t 3)), .none⟩, ⟨(.some 113), (.mv (.t 5)), .none⟩, ⟨(.some 114), (.call (.c (.fn 53 [] [])) [(.t 112), (.t 113)]), .none⟩, ⟨(.some 111), (.mv (.t 114)), .none⟩, ⟨(.some 115), (.ext (.t 111) 0), .none⟩, ⟨(.some 116), (.ext (.t 111) 1), .none⟩, ⟨(.some 7), (.mv (.t 115)), .none⟩, ⟨(.some 8), (.mv (.t 116)), .none⟩]) (.seq (.reg [⟨(.some 118), (.load 9 .true (.t 3)), .none⟩, ⟨(.some 119), (.mv (.t 6)), .none⟩, ⟨(.some 120), (.call (.c (.fn 53 [] [])) [(.t 118), (.t 119)]), .none⟩, ⟨(.some 117), (.mv (.t 120)), .none⟩, ⟨(.some 121), (.ext (.t 117) 0), .none⟩, ⟨(.some 122), (.ext (.t 117) 1), .none⟩, ⟨(.some 9), (.mv (.t 121)), .none⟩, ⟨(.some 10), (.mv (.t 122)), .none⟩]) (.seq (.reg [⟨(.some 123), (.mv (.t 8)), .none⟩, ⟨(.some 124), (.not (.t 123)), .none⟩, ⟨(.some 125), (.mv (.t 124)), .none⟩, ⟨(.some 126), (.mv (.t 10)), (.some (125, .false))⟩, ⟨(.some 127), (.not (.t 126)), (.some (125, .false))⟩, ⟨(.some 128), (.pick (.t 125) (.c (.bool .true)) (.t 127)), .none⟩, ⟨(.some 129), (.mv (.t 128)), .none⟩, ⟨(.some 130), (.fadr 4 (.t 3)), (.some (129, .false))⟩, ⟨(.some 131), (.load 1 .false (.t 130)), (.some (129, .false))⟩, ⟨(.some 132), (.mv (.t 5)), (.some (129, .false))⟩, ⟨(.some 133), (.iadr 1 (.t 131) (.t 132)), (.some (129, .false))⟩, ⟨(.some 134), (.load 1 .false (.t 133)), (.some (129, .false))⟩, ⟨(.some 135), (.mv (.t 9)), (.some (129, .false))⟩, ⟨(.some 136), (.bin .neq (.t 134) (.t 135)), (.some (129, .false))⟩, ⟨(.some 137), (.pick (.t 129) (.c (.bool .true)) (.t 136)), .none⟩, ⟨(.some 138), (.mv (.t 137)), .none⟩, ⟨(.some 139), (.fadr 4 (.t 3)), (.some (138, .false))⟩, ⟨(.some 140), (.load 1 .false (.t 139)), (.some (138, .false))⟩, ⟨(.some 141), (.mv (.t 6)), (.some (138, .false))⟩, ⟨(.some 142), (.iadr 1 (.t 140) (.t 141)), (.some (138, .false))⟩, ⟨(.some 143), (.load 1 .false (.t 142)), (.some (138, .false))⟩, ⟨(.some 144), (.mv (.t 7)), (.some (138, .false))⟩, ⟨(.some 145), (.bin .neq (.t 143) (.t 144)), (.some (138, .false))⟩, ⟨(.some 146), (.pick (.t 138) (.c (.bool .true)) (.t 145)), .none⟩]) (.seq (.cond (.t 146) (.seq (.reg [⟨(.some 2), (.mv (.c (.bool .false))), .none⟩]) .ret) .skip) (.seq (.dreg 1 [(.plain, ⟨(.some 147), (.fadr 3 (.t 1)), .none⟩), (.plain, ⟨(.some 148), (.load 1 .false (.t 147)), .none⟩), (.plain, ⟨(.some 149), (.fadr 7 (.t 3)), .none⟩), (.plain, ⟨(.some 150), (.load 1 .false (.t 149)), .none⟩), (.plain, ⟨(.some 151), (.mv (.t 5)), .none⟩), (.plain, ⟨(.some 152), (.iadr 1 (.t 150) (.t 151)), .none⟩), (.plain, ⟨(.some 153), (.load 1 .false (.t 152)), .none⟩), (.plain, ⟨(.some 154), (.iadr 3 (.t 148) (.t 153)), .none⟩), (.plain, ⟨(.some 155), (.load 3 .true (.t 154)), .none⟩), ((.hole 0), ⟨(.some 11), (.alloc [(.int .i64 0), (.int .i64 0), (.int .i64 0)]), .none⟩), (.plain, ⟨.none, (.store 3 (.t 11) (.t 155)), .none⟩)] [(.nh (.t 147) 0), (.nh (.t 149) 0), (.nh (.t 152) 0), (.nh (.t 154) 0)]) (.seq (.dreg 0 [(.plain, ⟨(.some 156), (.fadr 8 (.t 3)), .none⟩), (.plain, ⟨(.some 157), (.load 1 .false (.t 156)), .none⟩), (.plain, ⟨(.some 158), (.mv (.t 5)), .none⟩), (.plain, ⟨(.some 159), (.iadr 1 (.t 157) (.t 158)), .none⟩), (.plain, ⟨(.some 160), (.load 1 .false (.t 159)), .none⟩), (.plain, ⟨(.some 161), (.not (.t 160)), .none⟩), (.plain, ⟨(.some 162), (.mv (.t 161)), .none⟩), (.plain, ⟨(.some 163), (.fadr 0 (.t 11)), (.some (162, .true))⟩), (.plain, ⟨(.some 164), (.load 1 .false (.t 163)), (.some (162, .true))⟩), (.plain, ⟨(.some 165), (.mv (.t 7)), (.some (162, .true))⟩), (.plain, ⟨(.some 166), (.bin .neq (.t 164) (.t 165)), (.some (162, .true))⟩), (.plain, ⟨(.some 167), (.mv (.t 166)), (.some (162, .true))⟩), (.plain, ⟨(.some 168), (.fadr 1 (.t 11)), (.some (167, .false))⟩), (.plain, ⟨(.some 169), (.load 1 .false (.t 168)), (.some (167, .false))⟩), (.plain, ⟨(.some 170), (.mv (.t 9)), (.some (167, .false))⟩), (.plain, ⟨(.some 171), (.bin .neq (.t 169) (.t 170)), (.some (167, .false))⟩), (.plain, ⟨(.some 172), (.pick (.t 167) (.c (.bool .true)) (.t 171)), (.some (162, .true))⟩), (.plain, ⟨(.some 173), (.mv (.t 172)), (.some (162, .true))⟩), (.plain, ⟨(.some 174), (.fadr 2 (.t 11)), (.some (173, .false))⟩), (.plain, ⟨(.some 175), (.load 1 .false (.t 174)), (.some (173, .false))⟩), (.plain, ⟨(.some 176), (.fadr 6 (.t 3)), (.some (173, .false))⟩), (.plain, ⟨(.some 177), (.load 1 .false (.t 176)), (.some (173, .false))⟩), (.plain, ⟨(.some 178), (.mv (.t 5)), (.some (173, .false))⟩), (.plain, ⟨(.some 179), (.iadr 1 (.t 177) (.t 178)), (.some (173, .false))⟩), (.plain, ⟨(.some 180), (.load 1 .false (.t 179)), (.some (173, .false))⟩), (.plain, ⟨(.some 181), (.bin .neq (.t 175) (.t 180)), (.some (173, .false))⟩), (.plain, ⟨(.some 182), (.pick (.t 173) (.c (.bool .true)) (.t 181)), (.some (162, .true))⟩), (.plain, ⟨(.some 183), (.pick (.t 162) (.t 182) (.c (.bool .false))), .none⟩), (.plain, ⟨(.some 184), (.mv (.t 183)), .none⟩), (.plain, ⟨(.some 185), (.fadr 8 (.t 3)), (.some (184, .false))⟩), (.plain, ⟨(.some 186), (.load 1 .false (.t 185)), (.some (184, .false))⟩), (.plain, ⟨(.some 187), (.mv (.t 5)), (.some (184, .false))⟩), (.plain, ⟨(.some 188), (.iadr 1 (.t 186) (.t 187)), (.some (184, .false))⟩), (.plain, ⟨(.some 189), (.load 1 .false (.t 188)), (.some (184, .false))⟩), (.plain, ⟨(.some 190), (.mv (.t 189)), (.some (184, .false))⟩), (.plain, ⟨(.some 191), (.fadr 6 (.t 3)), (.some (190, .true))⟩), (.plain, ⟨(.some 192), (.load 1 .false (.t 191)), (.some (190, .true))⟩), (.plain, ⟨(.some 193), (.mv (.t 5)), (.some (190, .true))⟩), (.plain, ⟨(.some 194), (.iadr 1 (.t 192) (.t 193)), (.some (190, .true))⟩), (.plain, ⟨(.some 195), (.load 1 .false (.t 194)), (.some (190, .true))⟩), (.plain, ⟨(.some 196), (.bin .neq (.t 195) (.c (.int .i64 0))), (.some (190, .true))⟩), (.plain, ⟨(.some 197), (.pick (.t 190) (.t 196) (.c (.bool .false))), (.some (184, .false))⟩), (.plain, ⟨(.some 198), (.pick (.t 184) (.c (.bool .true)) (.t 197)), .none⟩)] []) (.cond (.t 198) (.seq (.reg [⟨(.some 2), (.mv (.c (.bool .false))), .none⟩]) .ret) .skip)))))))))))) (.reg [⟨(.some 199), (.bin .add (.t 55) (.c (.int .i64 1))), .none⟩, ⟨(.some 55), (.mv (.t 199)), .none⟩])))))) (.seq (.reg [⟨(.some 200), (.call (.c (.fn 50 [] [])) []), .none⟩, ⟨(.some 2), (.mv (.t 200)), .none⟩]) .ret))))))))
theorem nc12 : nc Try.prog 12 = some (1, [(.t 2)], gc12) := by kernel_rfl
def gc18 : MC := (.seq (.reg [⟨(.some 1), (.box 4 (.t 0)), .none⟩, ⟨(.some 2), (.mv (.c (.bool .false))), .none⟩]) (.seq (.reg [⟨(.some 14), (.load 4 .true (.t 1)), .none⟩, ⟨(.some 15), (.call (.c (.fn 31 [] [])) [(.t 14), (.c (.int .i64 40)), (.c (.int .i64 80))]), .none⟩, ⟨.none, (.store 4 (.t 1) (.t 15)), .none⟩]) (.seq (.reg [⟨(.some 17), (.load 4 .true (.t 1)), .none⟩, ⟨(.some 18), (.call (.c (.fn 46 [] [])) [(.t 17)]), .none⟩, ⟨(.some 16), (.mv (.t 18)), .none⟩, ⟨(.some 19), (.ext (.t 16) 0), .none⟩, ⟨(.some 20), (.ext (.t 16) 1), .none⟩, ⟨(.some 3), (.alloc [(.int .i64 0), (.int .i64 0), (.int .i64 0), .nils, .nils, .nils, .nils, .nils, .nils]), .none⟩, ⟨.none, (.store 9 (.t 3) (.t 19)), .none⟩, ⟨(.some 4), (.mv (.t 20)), .none⟩]) (.seq (.dreg 0 [(.plain, ⟨(.some 21), (.mv (.t 4)), .none⟩), (.plain, ⟨(.some 22), (.bin .neq (.t 21) (.c (.int .i64 0))), .none⟩), (.plain, ⟨(.some 23), (.mv (.t 22)), .none⟩), (.plain, ⟨(.some 24), (.fadr 3 (.t 3)), (.some (23, .false))⟩), (.plain, ⟨(.some 25), (.load 1 .false (.t 24)), (.some (23, .false))⟩), (.plain, ⟨(.some 26), (.len (.t 25)), (.some (23, .false))⟩), (.plain, ⟨(.some 27), (.fadr 0 (.t 1)), (.some (23, .false))⟩), (.plain, ⟨(.some 28), (.load 1 .false (.t 27)), (.some (23, .false))⟩), (.plain, ⟨(.some 29), (.bin .add (.t 28) (.c (.int .i64 1))), (.some (23, .false))⟩), (.plain, ⟨(.some 30), (.bin .neq (.t 26) (.t 29)), (.some (23, .false))⟩), (.plain, ⟨(.some 31), (.pick (.t 23) (.c (.bool .true)) (.t 30)), .none⟩), (.plain, ⟨(.some 32), (.mv (.t 31)), .none⟩), (.plain, ⟨(.some 33), (.fadr 3 (.t 3)), (.some (32, .false))⟩), (.plain, ⟨(.some 34), (.load 1 .false (.t 33)), (.some (32, .false))⟩), (.plain, ⟨(.some 35), (.iadr 1 (.t 34) (.c (.int .i64 0))), (.some (32, .false))⟩), (.plain, ⟨(.some 36), (.load 1 .false (.t 35)), (.some (32, .false))⟩), (.plain, ⟨(.some 37), (.bin .neq (.t 36) (.c (.int .i64 0))), (.some (32, .false))⟩), (.plain, ⟨(.some 38), (.pick (.t 32) (.c (.bool .true)) (.t 37)), .none⟩), (.plain, ⟨(.some 39), (.mv (.t 38)), .none⟩), (.plain, ⟨(.some 40), (.fadr 3 (.t 3)), (.some (39, .false))⟩), (.plain, ⟨(.some 41), (.load 1 .false (.t 40)), (.some (39, .false))⟩), (.plain, ⟨(.some 42), (.fadr 0 (.t 1)), (.some (39, .false))⟩), (.plain, ⟨(.some 43), (.load 1 .false (.t 42)), (.some (39, .false))⟩), (.plain, ⟨(.some 44), (.iadr 1 (.t 41) (.t 43)), (.some (39, .false))⟩), (.plain, ⟨(.some 45), (.load 1 .false (.t 44)), (.some (39, .false))⟩), (.plain, ⟨(.some 46), (.load 9 .true (.t 3)), (.some (39, .false))⟩), ((.pcall []), ⟨(.some 47), (.call (.c (.fn 49 [] [])) [(.t 46)]), (.some (39, .false))⟩), (.plain, ⟨(.some 48), (.bin .neq (.t 45) (.t 47)), (.some (39, .false))⟩), (.plain, ⟨(.some 49), (.pick (.t 39) (.c (.bool .true)) (.t 48)), .none⟩)] []) (.seq (.cond (.t 49) (.seq (.reg [⟨(.some 2), (.mv (.c (.bool .false))), .none⟩]) .ret) .skip) (.seq (.reg [⟨(.some 50), (.fadr 3 (.t 1)), .none⟩, ⟨(.some 51), (.load 1 .false (.t 50)), .none⟩, ⟨(.some 52), (.len (.t 51)), .none⟩, ⟨(.some 53), (.mkslice 1 8 [(.int .i64 0)] (.t 52)), .none⟩, ⟨(.some 5), (.mv (.t 53)), .none⟩]) (.seq (.reg [⟨(.some 54), (.fadr 0 (.t 1)), .none⟩, ⟨(.some 55), (.load 1 .false (.t 54)), .none⟩, ⟨(.some 56), (.mv (.c (.int .i64 0))), .none⟩]) (.seq (.block 0 (.loop (.seq (.reg [⟨(.some 57), (.bin .lss (.t 56) (.t 55)), .none⟩]) (.seq (.cond (.t 57) .skip (.exit 0)) (.seq (.block 1 (.seq (.reg [⟨(.some 58), (.mv (.t 56)), .none⟩, ⟨(.some 6), (.mv (.t 58)), .none⟩]) (.seq (.dreg 0 [(.plain, ⟨(.some 59), (.fadr 3 (.t 3)), .none⟩), (.plain, ⟨(.some 60), (.load 1 .false (.t 59)), .none⟩), (.plain, ⟨(.some 61), (.mv (.t 6)), .none⟩), (.plain, ⟨(.some 62), (.iadr 1 (.t 60) (.t 61)), .none⟩), (.plain, ⟨(.some 63), (.load 1 .false (.t 62)), .none⟩), (.plain, ⟨(.some 64), (.fadr 3 (.t 3)), .none⟩), (.plain, ⟨(.some 65), (.load 1 .false (.t 64)), .none⟩), (.plain, ⟨(.some 66), (.mv (.t 6)), .none⟩), (.plain, ⟨(.some 67), (.bin .add (.t 66) (.c (.int .i64 1))), .none⟩), (.plain, ⟨(.some 68), (.iadr 1 (.t 65) (.t 67)), .none⟩), (.plain, ⟨(.some 69), (.load 1 .false (.t 68)), .none⟩), (.plain, ⟨(.some 70), (.bin .gtr (.t 63) (.t 69)), .none⟩)] []) (.seq (.cond (.t 70) (.seq (.reg [⟨(.some 2), (.mv (.c (.bool .false))), .none⟩]) .ret) .skip) (.seq (.reg [⟨(.some 71), (.fadr 3 (.t 3)), .none⟩, ⟨(.some 72), (.load 1 .false (.t 71)), .none⟩, ⟨(.some 73), (.mv (.t 6)), .none⟩, ⟨(.some 74), (.iadr 1 (.t 72) (.t 73)), .none⟩, ⟨(.some 75), (.load 1 .false (.t 74)), .none⟩, ⟨(.some 7), (.mv (.t 75)), .none⟩]) (.block 2 (.loop (.seq (.reg [⟨(.some 76), (.mv (.t 7)), .none⟩, ⟨(.some 77), (.fadr 3 (.t 3)), .none⟩, ⟨(.some 78), (.load 1 .false (.t 77)), .none⟩, ⟨(.some 79), (.mv (.t 6)), .none⟩, ⟨(.some 80), (.bin .add (.t 79) (.c (.int .i64 1))), .none⟩, ⟨(.some 81), (.iadr 1 (.t 78) (.t 80)), .none⟩, ⟨(.some 82), (.load 1 .false (.t 81)), .none⟩, ⟨(.some 83), (.bin .lss (.t 76) (.t 82)), .none⟩]) (.seq (.cond (.t 83) .skip (.exit 2)) (.seq (.block 3 (.seq (.reg [⟨(.some 87), (.load 9 .true (.t 3)), .none⟩, ⟨(.some 88), (.mv (.t 7)), .none⟩, ⟨(.some 89), (.call (.c (.fn 53 [] [])) [(.t 87), (.t 88)]), .none⟩, ⟨(.some 86), (.mv (.t 89)), .none⟩, ⟨(.some 90), (.ext (.t 86) 0), .none⟩, ⟨(.some 91), (.ext (.t 86) 1), .none⟩, ⟨(.some 8), (.mv (.t 90)), .none⟩, ⟨(.some 9), (.mv (.t 91)), .none⟩]) (.seq (.dreg 0 [(.plain, ⟨(.some 92), (.mv (.t 9)), .none⟩), (.plain, ⟨(.some 93), (.not (.t 92)), .none⟩), (.plain, ⟨(.some 94), (.mv (.t 93)), .none⟩), (.plain, ⟨(.some 95), (.mv (.t 8)), (.some (94, .false))⟩), (.plain, ⟨(.some 96), (.mv (.t 6)), (.some (94, .false))⟩), (.plain, ⟨(.some 97), (.bin .neq (.t 95) (.t 96)), (.some (94, .false))⟩), (.plain, ⟨(.some 98), (.pick (.t 94) (.c (.bool .true)) (.t 97)), .none⟩), (.plain, ⟨(.some 99), (.mv (.t 98)), .none⟩), (.plain, ⟨(.some 100), (.mv (.t 7)), (.some (99, .false))⟩), (.plain, ⟨(.some 101), (.fadr 3 (.t 3)), (.some (99, .false))⟩), (.plain, ⟨(.some 102), (.load 1 .false (.t 101)), (.some (99, .false))⟩), (.plain, ⟨(.some 103), (.mv (.t 6)), (.some (99, .false))⟩), (.plain, ⟨(.some 104), (.iadr 1 (.t 102) (.t 103)), (.some (99, .false))⟩), (.plain, ⟨(.some 105), (.load 1 .false (.t 104)), (.some (99, .false))⟩), (.plain, ⟨(.some 106), (.bin .gtr (.t 100) (.t 105)), (.some (99, .false))⟩), (.plain, ⟨(.some 107), (.mv (.t 106)), (.some (99, .false))⟩), (.plain, ⟨(.some 108), (.fadr 7 (.t 3)), (.some (107, .true))⟩), (.plain, ⟨(.some 109), (.load 1 .false (.t 108)), (.some (107, .true))⟩), (.plain, ⟨(.some 110), (.mv (.t 7)), (.some (107, .true))⟩), (.plain, ⟨(.some 111), (.bin .sub (.t 110) (.c (.int .i64 1))), (.some (107, .true))⟩), (.plain, ⟨(.some 112), (.iadr 1 (.t 109) (.t 111)), (.some (107, .true))⟩), (.plain, ⟨(.some 113), (.load 1 .false (.t 112)), (.some (107, .true))⟩), (.plain, ⟨(.some 114), (.fadr 7 (.t 3)), (.some (107, .true))⟩), (.plain, ⟨(.some 115), (.load 1 .false (.t 114)), (.some (107, .true))⟩), (.plain, ⟨(.some 116), (.mv (.t 7)), (.some (107, .true))⟩), (.plain, ⟨(.some 117), (.iadr 1 (.t 115) (.t 116)), (.some (107, .true))⟩), (.plain, ⟨(.some 118), (.load 1 .false (.t 117)), (.some (107, .true))⟩), (.plain, ⟨(.some 119), (.bin .geq (.t 113) (.t 118)), (.some (107, .true))⟩), (.plain, ⟨(.some 120), (.pick (.t 107) (.t 119) (.c (.bool .false))), (.some (99, .false))⟩), (.plain, ⟨(.some 121), (.pick (.t 99) (.c (.bool .true)) (.t 120)), .none⟩)] []) (.seq (.cond (.t 121) (.seq (.reg [⟨(.some 2), (.mv (.c (.bool .false))), .none⟩]) .ret) .skip) (.reg [⟨(.some 122), (.mv (.t 5)), .none⟩, ⟨(.some 123), (.fadr 7 (.t 3)), .none⟩, ⟨(.some 124), (.load 1 .false (.t 123)), .none⟩, ⟨(.some 125), (.mv (.t 7)), .none⟩, ⟨(.some 126), (.iadr 1 (.t 124) (.t 125)), .none⟩, ⟨(.some 127), (.load 1 .false (.t 126)), .none⟩, ⟨(.some 128), (.iadr 1 (.t 122) (.t 127)), .none⟩, ⟨(.some 129), (.load 1 .false (.t 128)), .none⟩, ⟨(.some 130), (.bin .add (.t 129) (.c (.int .i64 1))), .none⟩, ⟨(.some 131), (.iadr 1 (.t 122) (.t 127)), .none⟩, ⟨.none, (.store 1 (.t 131) (.t 130)), .none⟩]))))) (.reg [⟨(.some 84), (.mv (.t 7)), .none⟩, ⟨(.some 85), (.bin .add (.t 84) (.c (.int .i64 1))), .none⟩, ⟨(.some 7), (.mv (.t 85)), .none⟩]))))))))))) (.reg [⟨(.some 132), (.bin .add (.t 56) (.c (.int .i64 1))), .none⟩, ⟨(.some 56), (.mv (.t 132)), .none⟩])))))) (.seq (.reg [⟨(.some 133), (.load 9 .true (.t 3)), .none⟩, ⟨(.some 134), (.fadr 3 (.t 1)), .none⟩, ⟨(.some 135), (.load 1 .false (.t 134)), .none⟩, ⟨(.some 136), (.len (.t 135)), .none⟩, ⟨(.some 137), (.call (.c (.fn 62 [] [])) [(.t 133), (.t 136)]), .none⟩, ⟨(.some 10), (.mv (.t 137)), .none⟩]) (.seq (.reg [⟨(.some 138), (.mv (.t 10)), .none⟩, ⟨(.some 139), (.len (.t 138)), .none⟩, ⟨(.some 140), (.fadr 3 (.t 1)), .none⟩, ⟨(.some 141), (.load 1 .false (.t 140)), .none⟩, ⟨(.some 142), (.len (.t 141)), .none⟩, ⟨(.some 143), (.bin .neq (.t 139) (.t 142)), .none⟩]) (.seq (.cond (.t 143) (.seq (.reg [⟨(.some 2), (.mv (.c (.bool .false))), .none⟩]) .ret) .skip) (.seq (.reg [⟨(.some 144), (.fadr 3 (.t 1)), .none⟩, ⟨(.some 145), (.load 1 .false (.t 144)), .none⟩, ⟨(.some 146), (.len (.t 145)), .none⟩, ⟨(.some 147), (.mv (.c (.int .i64 0))), .none⟩]) (.seq (.block 4 (.loop (.seq (.reg [⟨(.some 148), (.bin .lss (.t 147) (.t 146)), .none⟩]) (.seq (.cond (.t 148) .skip (.exit 4)) (.seq (.block 5 (.seq (.reg [⟨(.some 149), (.mv (.t 147)), .none⟩, ⟨(.some 150), (.iadr 3 (.t 145) (.t 147)), .none⟩, ⟨(.some 151), (.load 3 .true (.t 150)), .none⟩, ⟨(.some 12), (.alloc [(.int .i64 0), (.int .i64 0), (.int .i64 0)]), .none⟩, ⟨(.some 11), (.mv (.t 149)), .none⟩, ⟨.none, (.store 3 (.t 12) (.t 151)), .none⟩]) (.seq (.reg [⟨(.some 13), (.mv (.c (.int .i64 2))), .none⟩]) (.seq (.reg [⟨(.some 152), (.fadr 0 (.t 12)), .none⟩, ⟨(.some 153), (.load 1 .false (.t 152)), .none⟩, ⟨(.some 154), (.fadr 1 (.t 12)), .none⟩, ⟨(.some 155), (.load 1 .false (.t 154)), .none⟩, ⟨(.some 156), (.bin .eql (.t 153) (.t 155)), .none⟩]) (.seq (.cond (.t 156) (.reg [⟨(.some 13), (.mv (.c (.int .i64 0))), .none⟩]) .skip) (.seq (.dreg 0 [(.plain, ⟨(.some 157), (.mv (.t 5)), .none⟩), (.plain, ⟨(.some 158), (.mv (.t 11)), .none⟩), (.plain, ⟨(.some 159), (.iadr 1 (.t 157) (.t 158)), .none⟩), (.plain, ⟨(.some 160), (.load 1 .false (.t 159)), .none⟩), (.plain, ⟨(.some 161), (.mv (.t 13)), .none⟩), (.plain, ⟨(.some 162), (.bin .neq (.t 160) (.t 161)), .none⟩), (.plain, ⟨(.some 163), (.mv (.t 162)), .none⟩), (.plain, ⟨(.some 164), (.mv (.t 10)), (.some (163, .false))⟩), (.plain, ⟨(.some 165), (.mv (.t 11)), (.some (163, .false))⟩), (.plain, ⟨(.some 166), (.iadr 1 (.t 164) (.t 165)), (.some (163, .false))⟩), (.plain, ⟨(.some 167), (.load 1 .false (.t 166)), (.some (163, .false))⟩), (.plain, ⟨(.some 168), (.bin .lss (.t 167) (.c (.int .i64 0))), (.some (163, .false))⟩), (.plain, ⟨(.some 169), (.mv (.t 13)), (.some (163, .false))⟩), (.plain, ⟨(.some 170), (.bin .eql (.t 169) (.c (.int .i64 0))), (.some (163, .false))⟩), (.plain, ⟨(.some 171), (.eq .true .bool (.t 168) (.t 170)), (.some (163, .false))⟩), (.plain, ⟨(.some 172), (.pick (.t 163) (.c (.bool .true)) (.t 171)), .none⟩), (.plain, ⟨(.some 173), (.mv (.t 172)), .none⟩), (.plain, ⟨(.some 174), (.mv (.t 13)), (.some (173, .false))⟩), (.plain, ⟨(.some 175), (.bin .eql (.t 174) (.c (.int .i64 2))), (.some (173, .false))⟩), (.plain, ⟨(.some 176), (.mv (.t 175)), (.some (173, .false))⟩), (.plain, ⟨(.some 177), (.fadr 7 (.t 3)), (.some (176, .true))⟩), (.plain, ⟨(.some 178), (.load 1 .false (.t 177)), (.some (176, .true))⟩), (.plain, ⟨(.some 179), (.mv (.t 10)), (.some (176, .true))⟩), (.plain, ⟨(.some 180), (.mv (.t 11)), (.some (176, .true))⟩), (.plain, ⟨(.some 181), (.iadr 1 (.t 179) (.t 180)), (.some (176, .true))⟩), (.plain, ⟨(.some 182), (.load 1 .false (.t 181)), (.some (176, .true))⟩), (.plain, ⟨(.some 183), (.iadr 1 (.t 178) (.t 182)), (.some (176, .true))⟩), (.plain, ⟨(.some 184), (.load 1 .false (.t 183)), (.some (176, .true))⟩), (.plain, ⟨(.some 185), (.mv (.t 11)), (.some (176, .true))⟩), (.plain, ⟨(.some 186), (.bin .neq (.t 184) (.t 185)), (.some (176, .true))⟩), (.plain, ⟨(.some 187), (.mv (.t 186)), (.some (176, .true))⟩), (.plain, ⟨(.some 188), (.fadr 8 (.t 3)), (.some (187, .false))⟩), (.plain, ⟨(.some 189), (.load 1 .false (.t 188)), (.some (187, .false))⟩), (.plain, ⟨(.some 190), (.mv (.t 10)), (.some (187, .false))⟩), (.plain, ⟨(.some 191), (.mv (.t 11)), (.some (187, .false))⟩), (.plain, ⟨(.some 192), (.iadr 1 (.t 190) (.t 191)), (.some (187, .false))⟩), (.plain, ⟨(.some 193), (.load 1 .false (.t 192)), (.some (187, .false))⟩), (.plain, ⟨(.some 194), (.iadr 1 (.t 189) (.t 193)), (.some (187, .false))⟩), (.plain, ⟨(.some 195), (.load 1 .false (.t 194)), (.some (187, .false))⟩), (.plain, ⟨(.some 196), (.pick (.t 187) (.c (.bool .true)) (.t 195)), (.some (176, .true))⟩), (.plain, ⟨(.some 197), (.pick (.t 176) (.t 196) (.c (.bool .false))), (.some (173, .false))⟩), (.plain, ⟨(.some 198), (.pick (.t 173) (.c (.bool .true)) (.t 197)), .none⟩)] []) (.cond (.t 198) (.seq (.reg [⟨(.some 2), (.mv (.c (.bool .false))), .none⟩]) .ret) .skip))))))) (.reg [⟨(.some 199), (.bin .add (.t 147) (.c (.int .i64 1))), .none⟩, ⟨(.some 147), (.mv (.t 199)), .none⟩])))))) (.seq (.reg [⟨(.some 200), (.call (.c (.fn 50 [] [])) []), .none⟩, ⟨(.some 2), (.mv (.t 200)), .none⟩]) .ret))))))))))))))
theorem nc18 : nc Try.prog 18 = some (1, [(.t 2)], gc18) := by kernel_rfl
end Go.Proofs.Ytpojdgeginigjaa
/- CsrPairs: the walk. -/
set_option linter.unusedSimpArgs false
set_option linter.unusedVariables false
namespace Go.Proofs.Ytpojdgeginigjaa
open Go Go.Ar
set_option maxRecDepth 100000

theorem CA.s1 {H : Heap} {c : Csr} {x : CV} (h : CA H c x) : x.x1.scalar = true := len_scalar h.f1.len
theorem CA.s2 {H : Heap} {c : Csr} {x : CV} (h : CA H c x) : x.x2.scalar = true := len_scalar h.f2.len
theorem CA.s3 {H : Heap} {c : Csr} {x : CV} (h : CA H c x) : x.x3.scalar = true := len_scalar h.f3.len
theorem CA.s4 {H : Heap} {c : Csr} {x : CV} (h : CA H c x) : x.x4.scalar = true := len_scalar h.f4.len
theorem CA.s5 {H : Heap} {c : Csr} {x : CV} (h : CA H c x) : x.x5.scalar = true := len_scalar h.f5.len
theorem CA.s6 {H : Heap} {c : Csr} {x : CV} (h : CA H c x) : x.x6.scalar = true := len_scalar h.f6.len
theorem At.symm {n : Net} {c : Csr} {a k u v b : Nat} (h : At n c a k u v b) (ha : a < c.m) : At n c b k v u a :=
  ⟨h.hk, h.hv, h.hu, fun e => h.ne e.symm, h.iv, h.iu, h.eb, h.ea, ha, h.head', h.rev', h.arc', h.head, h.rev, h.arc, by
    rcases h.two with ⟨h1, h2, h3, h4, h5, h6⟩ | ⟨h1, h2, h3, h4, h5, h6⟩
    · exact .inr ⟨h2, h1, h3, h4, h6, h5⟩
    · exact .inl ⟨h2, h1, h3, h4, h6, h5⟩⟩
theorem tail_at {n : Net} {c : Csr} {xc : CV} {H : Heap} {a k u v b : Nat} (hI : IsCsr n c) (hC : CA H c xc) (h : At n c a k u v b) (ha : a < c.m) (hm : c.m ≤ 2 ^ 20) (hs : c.vs ≤ 2 ^ 20) : Pc E 53 [CVal c xc, .int .i64 a] H (.tup [.int .i64 u, .bool true]) := by
  have h1 := pos_ge n.arcs k u
  have h2 := pos_lt h.hk h.iu
  rw [← h.ea] at h1 h2
  refine pc_tail hC.f1 hC.f2 ha (by omega) hs h.hu (fun j hj => ?_) (fun j hj _ => ?_)
  · rw [hI.fst]; have := fst_mono n.arcs hj; omega
  · rw [hI.fst]; have := fst_mono n.arcs (show u + 1 ≤ j from hj); omega

set_option maxHeartbeats 8000000 in
theorem pairs_law {H : Heap} {n : Net} {a : V} (hin : NetIn H n a) : ∃ v H', callL E (.f 12) [NV n a] H = some (v, H') ∧ v = .bool true := by
  refine call_E rfl nc12 rfl ?_
  unfold gc12
  obtain ⟨hc0, hlen, hN2, hN40, hcap⟩ := some_facts (n := n) (vs := 40) (m := 80) (by omega) (by omega) (by omega) (fun x hx => (hin.arc x hx).2.2)
  obtain ⟨x, H1, HA, s1, s2, gb, hA, hSl, hHp, hxs⟩ := some_pre hin (vs := 40) (ms := 80) (m := 80) rfl (by omega) (by omega) (by omega)
  have hcb := capB_some hcap
  generalize someN n 40 80 = m at *
  obtain ⟨c, xc, G, e1, hC, hI, _⟩ := make_ok hA hc0
  have hcm := csr_m hI
  have hvs : c.vs ≤ 40 := by have := hI.vs; omega
  unfold NV nbox at s1
  unfold NV at e1 ⊢
  have hl : lenOf a = some n.arcs.length := Rw.len hin.al
  refine wa_sr ⟨_, by simp [len_cells hl]; rfl, ?_⟩
  refine wa_sr ⟨_, by simp -implicitDefEqProofs [s1, s2, hxs]; rfl, ?_⟩
  have b4 := rdn_all (X := []) (n := 4) gb rfl
  rw [List.append_nil] at b4
  unfold CVal at e1
  have hA := hA.app G
  have gb := get_pre (X := G) gb
  generalize HA ++ G = HZ at *
  refine wa_sr ⟨_, by simp -implicitDefEqProofs [b4, e1, hC.s1, hC.s2, hC.s3, hC.s4, hC.s5, hC.s6]; rfl, ?_⟩
  -- the heap behind
  have hA := hA.app [cbox c xc]
  have gb := get_pre (X := [cbox c xc]) gb
  have hC := hC.app [cbox c xc]
  have gc : (HZ ++ [cbox c xc])[HZ.length]? = some (cbox c xc) := by simp
  refine wa_rg [(1, .ptr H.length 0), (3, .ptr HZ.length 0), (4, .int .i64 0)] (by simp [Rg]) ?_
  change ∀ τ', Rg τ' _ → WP E _ ⟨τ', HZ ++ [cbox c xc]⟩ _
  generalize HZ ++ [cbox c xc] = HB at *
  generalize HZ.length = k3 at *
  generalize H.length = k1 at *
  clear e1 s1 s2 b4
  rintro τ ⟨t1, t3, t4, -⟩
  dsimp only at t1 t3 t4
  obtain ⟨f1, g1⟩ := pc_len (c := c) (x := xc) (H := HB) hC.f2.len
  obtain ⟨f2, g2⟩ := (pc_len (c := c) (x := xc) (H := prot [] HB) hC.f2.len).pc0
  have g2e := g2 []
  rw [List.append_nil, List.nil_append] at g2e
  have hcv : CVal c xc = .agg [.int .i64 c.N, .int .i64 c.S, .int .i64 c.T, xc.x1, xc.x2, xc.x3, xc.x4, xc.x5, xc.x6] := rfl
  rw [hcv] at g1 g2 g2e
  have c9 : ∀ X, rdn (HB ++ X) k3 0 9 = some [.int .i64 c.N, .int .i64 c.S, .int .i64 c.T, xc.x1, xc.x2, xc.x3, xc.x4, xc.x5, xc.x6] := fun X => rdn_all gc rfl
  have cr : ∀ X o, rd (HB ++ X) k3 o = [V.int .i64 c.N, .int .i64 c.S, .int .i64 c.T, xc.x1, xc.x2, xc.x3, xc.x4, xc.x5, xc.x6][o]? := fun X o => rd_pre gc
  have br : ∀ X o, rd (HB ++ X) k1 o = [V.int .i64 m.N, .int .i64 m.S, .int .i64 m.T, x][o]? := fun X o => rd_pre gb
  have c9e := c9 []
  have cre := cr []
  rw [List.append_nil] at c9e
  simp only [List.append_nil] at cre
  refine wa_seq (wa_dreg (s' := _) (by
    simp -implicitDefEqProofs [dinsL, dins, t4, t3, c9, cr, c9e, cre, g2, g2e, hC.f3.len, hC.f4.len, hC.f5.len, hC.f6.len]
    rfl) (by simp) ?_)
  refine wa_if (t := false) (by simp) (fun h => by cases h) (fun _ => ?_)
  refine wa_rh [(1, .ptr k1 0), (3, .ptr k3 0)] HB (by simp [Rg, t1, t3]) ⟨_, rfl⟩ ?_
  clear t1 t3 t4 τ g2 g2e
  rintro τ G0 ⟨t1, t3, -⟩
  dsimp only at t1 t3
  refine wa_sr ⟨_, by simp -implicitDefEqProofs [t3, c9, g1]; rfl, ?_⟩
  have lk1 := lt_of_get gb
  have lk3 := lt_of_get gc
  refine wa_cut (fun s => True) ?_ ?_
  · refine wa_for (n := c.m) (fun i (_ : Heap) => [(1, .ptr k1 0), (3, .ptr k3 0)]) (fun i G H' => H' = HB ++ G) (G0 ++ f1 G0)
      (by decide) (fun i hi => w64 (by omega) (by omega)) (by simp) (by simp) (by simp [Rg, t1, t3]) (by simp) (by simp) ?_ ?_
    · clear t1 t3 τ
      rintro i G τ _ hi t55 t54 ⟨t1, t3, -⟩ rfl
      dsimp only [ev] at *
      obtain ⟨k, u, v, b, hAt⟩ := csr_at hI hi
      have hAs := hAt.symm hi
      have hib : i ≠ b := fun e => hAt.ne (pos_inj hAt.hk hAt.hk hAt.iu hAt.iv (by rw [← hAt.ea, ← hAt.eb]; exact e)).2
      have hbm := hAt.hb
      obtain ⟨q3, o3, c3, e3, r3⟩ := hC.f3.at hi
      obtain ⟨q3', o3', c3', e3', r3'⟩ := hC.f3.at hbm
      obtain ⟨q5, o5, c5, e5, r5⟩ := hC.f5.at hi
      obtain ⟨q5', o5', c5', e5', r5'⟩ := hC.f5.at hbm
      obtain ⟨q6, o6, c6, e6, r6⟩ := hC.f6.at hi
      obtain ⟨q6', o6', c6', e6', r6'⟩ := hC.f6.at hbm
      obtain ⟨q2, o2, c2, e2, r2⟩ := hC.f2.at hi
      obtain ⟨q2', o2', c2', e2', r2'⟩ := hC.f2.at hbm
      obtain ⟨q4, o4, c4, e4, r4⟩ := hC.f4.at hi
      rw [e3] at e3'; cases e3'
      rw [e5] at e5'; cases e5'
      rw [e6] at e6'; cases e6'
      rw [e2] at e2'; cases e2'
      rw [hAt.rev] at r3
      rw [hAt.rev'] at r3'
      rw [hAt.arc] at r5
      rw [hAt.arc'] at r5'
      rw [hAt.head] at r2
      rw [hAt.head'] at r2'
      obtain ⟨qx, ox, cx, ex, hqx, rx, _⟩ := hA.at hAt.hk
      obtain ⟨ft, gt⟩ := tail_at hI hC hAt hi (by omega) (by omega)
      obtain ⟨fu, gu⟩ := tail_at hI hC hAs hbm (by omega) (by omega)
      rw [hcv] at gt gu
      simp only [e2, e3, e4, e5, e6] at g1 gt gu c9 cr
      have hb1 : ¬ ((b : Int) < 0) := by omega
      have hb2 : ¬ (c.m ≤ b) := by omega
      have hb3 : ¬ (b = i) := fun e => hib e.symm
      have hb4 : ((b : Int) == (i : Int)) = false := by simp; omega
      have hbb : c.back b = !c.back i := by rcases hAt.two with ⟨h1, h2, _⟩ | ⟨h1, h2, _⟩ <;> rw [h1, h2] <;> rfl
      rw [hbb] at r6'
      have hkl := hAt.hk
      refine wa_sr ⟨_, by simp [t55]; rfl, ?_⟩
      refine wa_sr ⟨_, by simp -implicitDefEqProofs [t3, t55, cr, e3, hi, r3]; rfl, ?_⟩
      have hnb : (c.back i == !c.back i) = false := by cases c.back i <;> rfl
      refine wa_dr rfl rfl ⟨_, by simp -implicitDefEqProofs [t3, t55, c9, cr, g1, hb1, hb2, hb3, hb4, hbm, hi, e3, r3', e5, r5, r5', e6, r6, r6', hnb]; rfl, ?_⟩
      refine wa_if (t := false) (by simp) (fun h => by cases h) (fun _ => ?_)
      refine wa_rh [(1, .ptr k1 0), (3, .ptr k3 0), (55, .int .i64 i), (54, .int .i64 c.m), (5, .int .i64 i), (6, .int .i64 b)] HB (by simp [Rg, t1, t3, t55, t54]) ⟨_, rfl⟩ ?_
      clear t1 t3 t55 t54 τ G
      rintro τ G ⟨t1, t3, t55, t54, t5, t6, -⟩
      dsimp only at t1 t3 t55 t54 t5 t6
      refine wa_sr ⟨_, by simp -implicitDefEqProofs [t3, t5, c9, gt]; rfl, ?_⟩
      refine wa_sr ⟨_, by simp -implicitDefEqProofs [t3, t6, c9, gu]; rfl, ?_⟩
      refine wa_sr ⟨_, by simp -implicitDefEqProofs [t3, t5, t6, cr, e2, hi, hbm, r2, r2']; rfl, ?_⟩
      refine wa_if (t := false) (by simp) (fun h => by cases h) (fun _ => ?_)
      refine wa_rh [(1, .ptr k1 0), (3, .ptr k3 0), (55, .int .i64 i), (54, .int .i64 c.m), (5, .int .i64 i), (6, .int .i64 b), (7, .int .i64 u), (9, .int .i64 v)] HB (by simp [Rg, t1, t3, t55, t54, t5, t6]) ⟨_, rfl⟩ ?_
      clear t1 t3 t55 t54 t5 t6 τ G
      rintro τ G ⟨t1, t3, t55, t54, t5, t6, t7, t9, -⟩
      dsimp only at t1 t3 t55 t54 t5 t6 t7 t9
      have lq5 := Rw.lt hC.f5.rw q5 (by rw [e5]; rfl)
      have n1 : (k1 == HB.length + G.length) = false := by simp; omega
      have n3 : (k3 == HB.length + G.length) = false := by simp; omega
      have n5 : (q5 == HB.length + G.length) = false := by simp; omega
      have nx : (qx == HB.length + G.length) = false := by simp; omega
      unfold Arc.cells at rx
      refine wa_seq (wa_dreg (s' := _) (by
        simp -implicitDefEqProofs [dinsL, dins, newOf, t1, t3, t5, cr, br, e5, hi, r5, ex, hkl, rx, getElem?_app0, set_app0]
        rfl) (by simp [Chk.ok, V.blk?, n1, n3, n5, nx, bne]) ?_)
      rcases hAt.two with ⟨h1, h2, h3, h4, h5, h6⟩ | ⟨h1, h2, h3, h4, h5, h6⟩
      · rw [h1] at r6
        rw [h5] at r4
        refine wa_seq (wa_dreg (s' := _) (by
          rw [dinsL_plain rfl]
          simp -implicitDefEqProofs [t1, t3, t5, t7, t9, cr, e6, e4, hi, r6, r4, h3, h4]
          rfl) (by simp) ?_)
        refine wa_cond (t := false) (by simp) (fun h => by cases h) (fun _ => wa_skip ?_)
        exact ⟨by simp [t55], by simp [t54], G ++ [.cells [.int .i64 u, .int .i64 v, .int .i64 m.arcs[k].cap] .ex], by simp [Rg, t1, t3], by simp [h3, h4]⟩
      · rw [h1] at r6
        rw [h5] at r4
        refine wa_seq (wa_dreg (s' := _) (by
          rw [dinsL_plain rfl]
          simp -implicitDefEqProofs [t1, t3, t5, t7, t9, cr, e6, e4, hi, r6, r4, h3, h4]
          rfl) (by simp) ?_)
        refine wa_cond (t := false) (by simp) (fun h => by cases h) (fun _ => wa_skip ?_)
        exact ⟨by simp [t55], by simp [t54], G ++ [.cells [.int .i64 v, .int .i64 u, .int .i64 m.arcs[k].cap] .ex], by simp [Rg, t1, t3], by simp [h3, h4]⟩
    · rintro G τ H' _ _; trivial
  · rintro ⟨τ, H'⟩ _
    refine wa_sr ⟨_, by simp -implicitDefEqProofs [call_yes (k := 50) rfl]; rfl, ?_⟩
    exact wa_ret ⟨by simp, _, by simp; rfl, rfl⟩
end Go.Proofs.Ytpojdgeginigjaa
/- CsrTurns: the walk. -/
set_option linter.unusedSimpArgs false
set_option linter.unusedVariables false
namespace Go.Proofs.Ytpojdgeginigjaa
open Go Go.Ar
set_option maxRecDepth 100000

theorem inc_flip (v : Nat) (a : Ar.Arc) : inc v (flip a) = inc v a := by
  rw [Bool.eq_iff_iff, inc_iff, inc_iff]
  simp only [flip]
  constructor
  · rintro ⟨h1, h2⟩; exact ⟨fun e => h1 e.symm, h2.symm⟩
  · rintro ⟨h1, h2⟩; exact ⟨fun e => h1 e.symm, h2.symm⟩
theorem deg_flip (l : List Ar.Arc) (v : Nat) : deg (l.map flip) v = deg l v := by
  unfold deg
  rw [List.countP_map]
  congr 1
  funext a
  exact inc_flip v a
theorem fst_flip (l : List Ar.Arc) : ∀ v, fst (l.map flip) v = fst l v
  | 0 => rfl
  | v + 1 => by simp only [fst, fst_flip l v, deg_flip]
theorem pos_flip (l : List Ar.Arc) (k v : Nat) : pos (l.map flip) k v = pos l k v := by
  unfold pos
  rw [fst_flip, ← List.map_take, deg_flip]
/-- The rows of a net, and of the net turned: the same arcs, the other way. -/
theorem turn_at {n : Net} {c d : Csr} (hc : IsCsr n c) (hd : IsCsr (turn n) d) : c.vs = d.vs ∧ c.m = d.m ∧ (∀ u, c.first u = d.first u) ∧ ∀ a, a < c.m → ∃ k u v b, At n c a k u v b ∧ d.head a = v ∧ d.rev a = b ∧ d.arc a = k ∧ d.back a = !c.back a ∧ d.arc b = k ∧ d.back b = c.back a ∧ d.cap b = c.cap a := by
  have hvs : c.vs = d.vs := by have := hc.vs; have := hd.vs; simp only [turn] at this; omega
  have hm : c.m = d.m := by rw [hc.m, hd.m]; simp only [turn]; rw [fst_flip, hvs]
  refine ⟨hvs, hm, fun u => by rw [hc.fst, hd.fst]; simp only [turn]; rw [fst_flip], fun a ha => ?_⟩
  obtain ⟨k, u, v, b, h⟩ := csr_at hc ha
  obtain ⟨k', u', v', b', h'⟩ := csr_at hd (show a < d.m by omega)
  have hk' : k' < n.arcs.length := by have := h'.hk; simpa [turn] using this
  have hget : (turn n).arcs[k']'h'.hk = flip n.arcs[k'] := by simp [turn]
  have hi' := h'.iu
  rw [hget, inc_flip] at hi'
  have he := h'.ea
  simp only [turn] at he
  rw [pos_flip, h.ea] at he
  obtain ⟨rfl, rfl⟩ := pos_inj h.hk hk' h.iu hi' he
  have two' := h'.two
  rw [hget] at two'
  simp only [flip] at two'
  have hvv : v' = v := by
    have := h.ne
    rcases h.two with ⟨_, _, e1, e2, _⟩ | ⟨_, _, e1, e2, _⟩ <;> rcases two' with ⟨_, _, e3, e4, _⟩ | ⟨_, _, e3, e4, _⟩ <;> omega
  subst hvv
  have hbb : b' = b := by rw [h'.eb, h.eb]; simp only [turn]; rw [pos_flip]
  subst hbb
  refine ⟨k, u, v', b', h, h'.head, h'.rev, h'.arc, ?_, h'.arc', ?_, ?_⟩
  · rcases h.two with ⟨p1, p2, e1, e2, _⟩ | ⟨p1, p2, e1, e2, _⟩ <;> rcases two' with ⟨q1, q2, e3, e4, _⟩ | ⟨q1, q2, e3, e4, _⟩ <;> first | (exfalso; have := h.ne; omega) | (rw [p1, q1]; rfl)
  · rcases h.two with ⟨p1, p2, e1, e2, _⟩ | ⟨p1, p2, e1, e2, _⟩ <;> rcases two' with ⟨q1, q2, e3, e4, _⟩ | ⟨q1, q2, e3, e4, _⟩ <;> first | (exfalso; have := h.ne; omega) | (rw [p1, q2])
  · rcases h.two with ⟨p1, p2, e1, e2, e5, e6⟩ | ⟨p1, p2, e1, e2, e5, e6⟩ <;> rcases two' with ⟨q1, q2, e3, e4, e7, e8⟩ | ⟨q1, q2, e3, e4, e7, e8⟩ <;> first | (exfalso; have := h.ne; omega) | (rw [e5, e8])
theorem withinF_turn {n : Net} {f : Nat → Int} (h : withinF n.arcs n.arcs.length f) : withinF (turn n).arcs (turn n).arcs.length f := fun j hj _ => by
  have hj' : j < n.arcs.length := by simpa [turn] using hj
  obtain ⟨h1, h2, h3⟩ := h j hj' hj'
  have hget : (turn n).arcs[j] = flip n.arcs[j] := by simp [turn]
  rw [hget]
  exact ⟨h1, h2, fun e => h3 e.symm⟩
theorem capB_turn {n : Net} (h : capB n.arcs) : capB (turn n).arcs := fun x hx => by
  simp only [turn, List.mem_map] at hx
  obtain ⟨y, hy, rfl⟩ := hx
  exact h y hy

set_option maxHeartbeats 8000000 in
theorem csrturns_law {H : Heap} {n : Net} {a z : V} {zs : List Int} (hin : NetIn H n a) (hz : IL .i64 H z zs) (hzb : ∀ x, x ∈ zs → i64b x) : ∃ v H', callL E (.f 10) [NV n a, z] H = some (v, H') ∧ v = .bool true := by
  refine call_E rfl nc10 rfl ?_
  unfold gc10
  obtain ⟨hc0, hlen, hN2, hN40, hcap⟩ := some_facts (n := n) (vs := 40) (m := 80) (by omega) (by omega) (by omega) (fun x hx => (hin.arc x hx).2.2)
  obtain ⟨x, H1, HA, s1, s2, gb, hA, hSl, hHp, hxs⟩ := some_pre hin (vs := 40) (ms := 80) (m := 80) rfl (by omega) (by omega) (by omega)
  have hcb := capB_some hcap
  generalize someN n 40 80 = m at *
  unfold NV nbox at s1
  unfold NV
  have hl : lenOf a = some n.arcs.length := Rw.len hin.al
  have hzA := hHp.il hz
  refine wa_sr ⟨_, by simp [len_cells hl]; rfl, ?_⟩
  refine wa_sr ⟨_, by simp -implicitDefEqProofs [s1, s2, hxs]; rfl, ?_⟩
  have br : ∀ X o, rd (HA ++ X) H.length o = [V.int .i64 m.N, .int .i64 m.S, .int .i64 m.T, x][o]? := fun X o => rd_pre gb
  have bre := br []
  simp only [List.append_nil] at bre
  have hxl : lenOf x = some m.arcs.length := Rw.len hA
  have lk1 := lt_of_get gb
  refine wa_sr ⟨_, by simp -implicitDefEqProofs [bre, fillc]; rfl, ?_⟩
  refine wa_sr ⟨_, by simp -implicitDefEqProofs [br, hxl]; rfl, ?_⟩
  have hm0 : MB HA.length (HA ++ [nbox ⟨m.N, m.T, m.S, []⟩ .nils]) HA.length ⟨m.N, m.T, m.S, []⟩ .nils := ⟨Nat.le_refl _, by simp, .inl ⟨rfl, rfl⟩, fun k hk => by simp [V.blk?] at hk⟩
  change WP E _ ⟨_, HA ++ [nbox ⟨m.N, m.T, m.S, []⟩ .nils]⟩ _
  generalize hk1 : H.length = k1 at *
  refine wa_cut (fun s => (∃ y, Hp HA s.H [] ∧ MB HA.length s.H HA.length (turn m) y) ∧ Rg s.τ [(1, z), (2, .ptr k1 0), (5, .ptr HA.length 0)]) ?_ ?_
  · refine wa_for (n := m.arcs.length) (fun i (y : V) => [(1, z), (2, .ptr k1 0), (5, .ptr HA.length 0), (28, x)]) (fun i y H' => Hp HA H' [] ∧ MB HA.length H' HA.length ⟨m.N, m.T, m.S, (m.arcs.take i).map flip⟩ y) .nils
      (by decide) (fun i hi => w64 (by omega) (by omega)) (by simp) (by simp) (by simp [Rg]) ⟨Hp.app _ _, by simpa using hm0⟩ (by simp) ?_ ?_
    · rintro i y τ H3 hi t30 t29 ⟨t1, t2, t5, t28, -⟩ ⟨hP, hM⟩
      dsimp only [ev] at *
      obtain ⟨ka, o, cc, hae, _, _, hr⟩ := AL.at (hP.rw hA : AL H3 x m.arcs) hi
      have htk : (m.arcs.take (i + 1)).map flip = (m.arcs.take i).map flip ++ [flip m.arcs[i]] := by
        rw [List.take_add_one, List.getElem?_eq_getElem hi, List.map_append]; rfl
      rw [htk]
      have hol : ((m.arcs.take i).map flip).length ≤ 2 ^ 20 := by simp; omega
      generalize (m.arcs.take i).map flip = out at *
      generalize m.arcs[i] = ar at *
      unfold Arc.cells at hr
      refine wa_sr ⟨_, by simp -implicitDefEqProofs [t28, t30, hae, hi, hr]; rfl, ?_⟩
      have hP4 := Hp_app hP [.cells ar.cells .ex]
      have hM4 := hM.app [.cells ar.cells .ex]
      have k9 : ∀ G o, rd (H3 ++ [.cells ar.cells .ex] ++ G) H3.length o = ar.cells[o]? := fun G o => by simp
      change WP E _ ⟨_, H3 ++ [.cells ar.cells .ex]⟩ _
      generalize H3 ++ [Blk.cells ar.cells .ex] = H4 at *
      generalize H3.length = k9n at *
      have d0 := k9 [] 0
      have d1 := k9 [] 1
      have d2 := k9 [] 2
      rw [List.append_nil] at d0 d1 d2
      simp only [Arc.cells, List.getElem?_cons_zero, List.getElem?_cons_succ] at d0 d1 d2
      have q3 := hM4.rd3 []
      rw [List.append_nil] at q3
      obtain ⟨x5, H6, p1, p2, p3, p4, p5⟩ := push3 hM4.own hP4.le (flip ar) hol
      have p1' : appendv (H4 ++ [.cells [.int .i64 ar.dst, .int .i64 ar.src, .int .i64 ar.cap] .ex]) 3 24 y (.sl H4.length 0 1 1) = some (x5, H6) := p1
      have hx5s : x5.scalar = true := len_scalar (Rw.len p2.al)
      have h4l := hM4.lt
      have b6 : H6[HA.length]? = some (nbox ⟨m.N, m.T, m.S, out⟩ y) := by rw [p4 _ h4l (fun e => hM4.ne _ e rfl)]; exact hM4.box
      obtain ⟨H7, w7, c7, f7, l7⟩ : ∃ X, wr H6 HA.length 3 [x5] = some X ∧ X[HA.length]? = some (nbox ⟨m.N, m.T, m.S, out ++ [flip ar]⟩ x5) ∧ (∀ j, j ≠ HA.length → X[j]? = H6[j]?) ∧ X.length = H6.length :=
        ⟨_, wr1 (o := 3) (v := x5) (cs := [.int .i64 m.N, .int .i64 m.T, .int .i64 m.S, y]) b6 rfl (by simp) hx5s, List.getElem?_set_self (List.getElem?_eq_some_iff.1 b6).1, fun j hj => List.getElem?_set_ne (fun e => hj e.symm), by simp⟩
      have hz5 : x5.cells = some [x5] := len_cells (Rw.len p2.al)
      refine wa_regs ⟨_, by simp -implicitDefEqProofs [t5, q3, d0, d1, d2, fillc, p1', hz5, w7]; rfl, ?_⟩
      have hple := hP4.le
      have hf : ∀ j, j < H4.length → j ≠ HA.length → y.blk? ≠ some j → H7[j]? = H4[j]? := fun j h1 h2 h3 => by rw [f7 j h2, p4 j h1 h3]
      refine ⟨by simp [t30], by simp [t29], x5, by simp [Rg, t1, t2, t5, t28, hae], ⟨by dsimp only; omega, fun j hj => ?_, fun q hq => by simp at hq, List.nodup_nil⟩, by omega, c7, p2.frame (fun j hj => f7 j (by have := p5 j hj; omega)), fun j hj => by have := p5 j hj; omega⟩
      rw [hf j (by omega) (by omega) (fun e => by have := hM4.own.ge j e; omega)]
      exact hP4.old j hj
    · rintro y τ H3 ⟨t1, t2, t5, -⟩ ⟨hP, hM⟩
      rw [List.take_length] at hM
      exact ⟨⟨y, hP, hM⟩, by simp [Rg, t1, t2, t5]⟩
  rintro ⟨τ, HB⟩ ⟨⟨y, hP, hM⟩, t1, t2, t5, -⟩
  dsimp only at hP hM t1 t2 t5
  have hA := hP.rw hA
  have hY := hM.own.al
  have hz3 := hP.il hzA
  have gb : HB[k1]? = _ := (hP.old _ lk1).trans gb
  have gt := hM.box
  have hct := hc0
  rw [← chk_turn m] at hct
  generalize HA.length = k5 at *
  clear hM hP hm0 br bre s1 s2
  -- what is within
  obtain ⟨f, F, G, hf, e1⟩ := within_ok hA hz3 hzb hcb (by omega)
  have b4 := rdn_all (X := []) (n := 4) gb rfl
  rw [List.append_nil] at b4
  unfold NV at e1
  refine wa_sr ⟨_, by simp -implicitDefEqProofs [t2, t1, b4, e1]; rfl, ?_⟩
  have hA := hA.app (F ++ (rI m.arcs.length f :: G))
  have hY := hY.app (F ++ (rI m.arcs.length f :: G))
  have gb := get_pre (X := F ++ (rI m.arcs.length f :: G)) gb
  have gt := get_pre (X := F ++ (rI m.arcs.length f :: G)) gt
  have hf0 : (HB ++ F ++ (rI m.arcs.length f :: G))[(HB ++ F).length]? = some (rI m.arcs.length f) := by simp
  rw [List.append_assoc] at e1 hf0
  refine wa_rg [(1, z), (2, .ptr k1 0), (5, .ptr k5 0), (8, .sl (HB ++ F).length 0 m.arcs.length m.arcs.length)] (by simp [Rg, t1, t2, t5]) ?_
  clear t1 t2 t5 τ b4
  generalize (HB ++ F).length = kf at *
  change ∀ τ', Rg τ' _ → WP E _ ⟨τ', HB ++ (F ++ (rI m.arcs.length f :: G))⟩ _
  generalize HB ++ (F ++ (rI m.arcs.length f :: G)) = HC at *
  rintro τ ⟨t1, t2, t5, t8, -⟩
  dsimp only at t1 t2 t5 t8
  have hF : TB HC (.sl kf 0 m.arcs.length m.arcs.length) m.arcs.length fun j => .int .i64 (f j) := TB.own (G := []) hf0
  clear hf0 e1 hz3 hzA
  -- the row of the net
  obtain ⟨c, xc, G, e1, hC, hI, _⟩ := make_ok hA hc0
  have hcm := csr_m hI
  have hvs : c.vs ≤ 40 := by have := hI.vs; omega
  unfold NV CVal at e1
  have b4 := rdn_all (X := []) (n := 4) gb rfl
  rw [List.append_nil] at b4
  have hA := hA.app G
  have hY := hY.app G
  have hF := hF.app G
  have gb := get_pre (X := G) gb
  have gt := get_pre (X := G) gt
  generalize HC ++ G = HZ at *
  refine wa_sr ⟨_, by simp -implicitDefEqProofs [t2, b4, e1, hC.s1, hC.s2, hC.s3, hC.s4, hC.s5, hC.s6]; rfl, ?_⟩
  have hA := hA.app [cbox c xc]
  have hY := hY.app [cbox c xc]
  have hF := hF.app [cbox c xc]
  have gb := get_pre (X := [cbox c xc]) gb
  have gt := get_pre (X := [cbox c xc]) gt
  have hC := hC.app [cbox c xc]
  have gc : (HZ ++ [cbox c xc])[HZ.length]? = some (cbox c xc) := by simp
  refine wa_rg [(2, .ptr k1 0), (5, .ptr k5 0), (8, .sl kf 0 m.arcs.length m.arcs.length), (9, .ptr HZ.length 0), (10, .int .i64 0)] (by simp [Rg, t2, t5, t8]) ?_
  change ∀ τ', Rg τ' _ → WP E _ ⟨τ', HZ ++ [cbox c xc]⟩ _
  generalize HZ ++ [cbox c xc] = HD at *
  generalize HZ.length = k9 at *
  clear e1 b4 t1 t2 t5 t8 τ
  rintro τ ⟨t2, t5, t8, t9, t10, -⟩
  dsimp only at t2 t5 t8 t9 t10
  -- the row of the net, turned
  obtain ⟨d, xd, G, e1, hD, hJ, _⟩ := make_ok hY hct
  obtain ⟨hvv, hmm, hfst, hat⟩ := turn_at hI hJ
  unfold NV CVal at e1
  have b4 : rdn HD k5 0 4 = some [V.int .i64 (turn m).N, .int .i64 (turn m).S, .int .i64 (turn m).T, y] := by
    have := rdn_all (X := []) (n := 4) gt rfl
    rw [List.append_nil] at this; exact this
  have hF := hF.app G
  have gc := get_pre (X := G) gc
  have hC := hC.app G
  generalize HD ++ G = HZ at *
  refine wa_sr ⟨_, by simp -implicitDefEqProofs [t5, b4, e1, hD.s1, hD.s2, hD.s3, hD.s4, hD.s5, hD.s6]; rfl, ?_⟩
  have hF := hF.app [cbox d xd]
  have gc := get_pre (X := [cbox d xd]) gc
  have hC := hC.app [cbox d xd]
  have hD := hD.app [cbox d xd]
  have gd : (HZ ++ [cbox d xd])[HZ.length]? = some (cbox d xd) := by simp
  refine wa_rg [(8, .sl kf 0 m.arcs.length m.arcs.length), (9, .ptr k9 0), (10, .int .i64 0), (11, .ptr HZ.length 0), (12, .int .i64 0)] (by simp [Rg, t8, t9, t10]) ?_
  change ∀ τ', Rg τ' _ → WP E _ ⟨τ', HZ ++ [cbox d xd]⟩ _
  generalize HZ ++ [cbox d xd] = HE at *
  generalize HZ.length = k11 at *
  clear e1 b4 t2 t5 t8 t9 t10 τ hA hY gb gt
  rintro τ ⟨t8, t9, t10, t11, t12, -⟩
  dsimp only at t8 t9 t10 t11 t12
  -- what is left
  obtain ⟨F1, G1, e1⟩ := res_ok hC hF (by omega) (csr_k hI) (csr_c hI hcb) (csr_g hI hf)
  have c9 := rdn_all (X := []) (n := 9) gc rfl
  rw [List.append_nil] at c9
  unfold CVal at e1
  rw [List.append_assoc] at e1
  refine wa_sr ⟨_, by simp -implicitDefEqProofs [t8, t9, c9, e1]; rfl, ?_⟩
  have hR : TB (HE ++ (F1 ++ (rI c.m (resF c f) :: G1))) (.sl (HE ++ F1).length 0 c.m c.m) c.m fun j => .int .i64 (resF c f j) := TB.own (G := []) (m := .ex) (by simp [rI])
  have hF := hF.app (F1 ++ (rI c.m (resF c f) :: G1))
  have hC := hC.app (F1 ++ (rI c.m (resF c f) :: G1))
  have hD := hD.app (F1 ++ (rI c.m (resF c f) :: G1))
  have gc := get_pre (X := F1 ++ (rI c.m (resF c f) :: G1)) gc
  have gd := get_pre (X := F1 ++ (rI c.m (resF c f) :: G1)) gd
  refine wa_rg [(8, .sl kf 0 m.arcs.length m.arcs.length), (9, .ptr k9 0), (10, .int .i64 0), (11, .ptr k11 0), (12, .int .i64 0), (13, .sl (HE ++ F1).length 0 c.m c.m), (14, .int .i64 0)] (by simp [Rg, t8, t9, t10, t11, t12]) ?_
  change ∀ τ', Rg τ' _ → WP E _ ⟨τ', HE ++ (F1 ++ (rI c.m (resF c f) :: G1))⟩ _
  generalize HE ++ (F1 ++ (rI c.m (resF c f) :: G1)) = HG at *
  generalize (HE ++ F1).length = k13 at *
  clear e1 c9 t8 t9 t10 t11 t12 τ
  rintro τ ⟨t8, t9, t10, t11, t12, t13, t14, -⟩
  dsimp only at t8 t9 t10 t11 t12 t13 t14
  have hnf : (turn m).arcs.length = m.arcs.length := by simp [turn]
  obtain ⟨F1, G1, e1⟩ := res_ok (f := f) hD hF (by omega) (fun a ha => by have := csr_k hJ a ha; rw [hnf] at this; exact this) (csr_c hJ (capB_turn hcb)) (csr_g hJ (withinF_turn hf))
  have c9 := rdn_all (X := []) (n := 9) gd rfl
  rw [List.append_nil] at c9
  unfold CVal at e1
  rw [List.append_assoc, ← hmm] at e1
  refine wa_sr ⟨_, by simp -implicitDefEqProofs [t8, t11, c9, e1]; rfl, ?_⟩
  have hS : TB (HG ++ (F1 ++ (rI c.m (resF d f) :: G1))) (.sl (HG ++ F1).length 0 c.m c.m) c.m fun j => .int .i64 (resF d f j) := TB.own (G := []) (m := .ex) (by simp [rI])
  have hR := hR.app (F1 ++ (rI c.m (resF d f) :: G1))
  have hC := hC.app (F1 ++ (rI c.m (resF d f) :: G1))
  have hD := hD.app (F1 ++ (rI c.m (resF d f) :: G1))
  have gc := get_pre (X := F1 ++ (rI c.m (resF d f) :: G1)) gc
  have gd := get_pre (X := F1 ++ (rI c.m (resF d f) :: G1)) gd
  refine wa_rg [(9, .ptr k9 0), (10, .int .i64 0), (11, .ptr k11 0), (12, .int .i64 0), (13, .sl k13 0 c.m c.m), (14, .int .i64 0), (15, .sl (HG ++ F1).length 0 c.m c.m), (16, .int .i64 0)] (by simp [Rg, t9, t10, t11, t12, t13, t14]) ?_
  change ∀ τ', Rg τ' _ → WP E _ ⟨τ', HG ++ (F1 ++ (rI c.m (resF d f) :: G1))⟩ _
  generalize HG ++ (F1 ++ (rI c.m (resF d f) :: G1)) = HI at *
  generalize (HG ++ F1).length = k15 at *
  clear e1 c9 t8 t9 t10 t11 t12 t13 t14 τ
  rintro τ ⟨t9, t10, t11, t12, t13, t14, t15, t16, -⟩
  dsimp only at t9 t10 t11 t12 t13 t14 t15 t16
  -- both rows beside one another
  have cr : ∀ X o, rd (HI ++ X) k9 o = [V.int .i64 c.N, .int .i64 c.S, .int .i64 c.T, xc.x1, xc.x2, xc.x3, xc.x4, xc.x5, xc.x6][o]? := fun X o => rd_pre gc
  have dr : ∀ X o, rd (HI ++ X) k11 o = [V.int .i64 d.N, .int .i64 d.S, .int .i64 d.T, xd.x1, xd.x2, xd.x3, xd.x4, xd.x5, xd.x6][o]? := fun X o => rd_pre gd
  have cre := cr []
  have dre := dr []
  simp only [List.append_nil] at cre dre
  have D1 : TB HI xd.x1 (c.vs + 1) fun j => .int .i64 (c.first j) := by rw [hvv]; exact hD.f1.congr fun j _ => by rw [hfst]
  have D5 : TB HI xd.x5 c.m fun j => .int .i64 (c.arc j) := by
    rw [hmm]
    exact hD.f5.congr fun j hj => by obtain ⟨k, u, v, b, h, h1, h2, h3, _⟩ := hat j (by omega); rw [h3, h.arc]
  have D2 : TB HI xd.x2 c.m fun j => .int .i64 (c.head j) := by
    rw [hmm]
    exact hD.f2.congr fun j hj => by obtain ⟨k, u, v, b, h, h1, h2, h3, _⟩ := hat j (by omega); rw [h1, h.head]
  have D3 : TB HI xd.x3 c.m fun j => .int .i64 (c.rev j) := by
    rw [hmm]
    exact hD.f3.congr fun j hj => by obtain ⟨k, u, v, b, h, h1, h2, h3, _⟩ := hat j (by omega); rw [h2, h.rev]
  obtain ⟨p1, q1⟩ := pc_ints hC.f1 D1 (by omega)
  obtain ⟨p2, q2⟩ := pc_ints hC.f5 D5 (by omega)
  obtain ⟨p3, q3⟩ := pc_ints hC.f2 D2 (by omega)
  obtain ⟨p4, q4⟩ := pc_ints hC.f3 D3 (by omega)
  have q1e := q1 []
  rw [List.append_nil, List.nil_append] at q1e
  refine wa_sr ⟨_, by simp -implicitDefEqProofs [t9, t10, t11, t12, t14, t16, cr, cre, dr, dre, q1, q1e, q2, q3, q4]; rfl, ?_⟩
  refine wa_if (t := false) (by simp) (fun h => by cases h) (fun _ => ?_)
  refine wa_rh [(9, .ptr k9 0), (11, .ptr k11 0), (13, .sl k13 0 c.m c.m), (15, .sl k15 0 c.m c.m)] HI (by simp [Rg, t9, t11, t13, t15]) ⟨_, rfl⟩ ?_
  clear t9 t10 t11 t12 t13 t14 t15 t16 τ q1 q1e q2 q3 q4
  rintro τ G0 ⟨t9, t11, t13, t15, -⟩
  dsimp only at t9 t11 t13 t15
  refine wa_sr ⟨_, by simp -implicitDefEqProofs [t9, cr, hC.f6.len]; rfl, ?_⟩
  refine wa_cut (fun s => Rg s.τ [(9, .ptr k9 0), (11, .ptr k11 0)] ∧ s.H = HI ++ G0) ?_ ?_
  · refine wa_for (n := c.m) (fun i (_ : Unit) => [(9, .ptr k9 0), (11, .ptr k11 0), (13, .sl k13 0 c.m c.m), (15, .sl k15 0 c.m c.m)]) (fun i _ H' => H' = HI ++ G0) ()
      (by decide) (fun i hi => w64 (by omega) (by omega)) (by simp) (by simp) (by simp [Rg, t9, t11, t13, t15]) rfl (by simp) ?_ ?_
    · clear t9 t11 t13 t15 τ
      rintro i _ τ _ hi t121 t120 ⟨t9, t11, t13, t15, -⟩ rfl
      dsimp only [ev] at *
      obtain ⟨k, u, v, b, h, h1, h2, h3, h4, h5, h6, h7⟩ := hat i hi
      have hbm := h.hb
      obtain ⟨q6, o6, c6, e6, r6⟩ := hC.f6.at hi
      obtain ⟨q6', o6', c6', e6', r6'⟩ := hD.f6.at (show i < d.m by omega)
      obtain ⟨q5, o5, c5, e5, r5⟩ := hC.f3.at hi
      rw [h.rev] at r5
      rw [h4] at r6'
      obtain ⟨qr, or', cr', er, rr⟩ := hR.at hi
      obtain ⟨qs, os, cs, es, rs⟩ := hS.at hbm
      cases er
      cases es
      have hres : resF c f i = resF d f b := by
        rw [resF_at h]
        unfold resF
        rw [h5, h6, h7]
        simp only [Int.toNat_natCast]
      rw [hres, Nat.zero_add] at rr
      rw [Nat.zero_add] at rs
      rw [← hmm] at e6'
      have hnb : (c.back i == !c.back i) = false := by cases c.back i <;> rfl
      refine wa_sr ⟨_, by simp [t121]; rfl, ?_⟩
      refine wa_dr rfl rfl ⟨_, by simp -implicitDefEqProofs [t121, t9, t11, t13, t15, cr, dr, e6, e6', hi, hbm, r6, r6', e5, r5, rr, rs, hnb]; rfl, ?_⟩
      refine wa_cond (t := false) (by simp) (fun h => by cases h) (fun _ => wa_skip ?_)
      exact ⟨by simp [t121], by simp [t120], (), by simp [Rg, t9, t11, t13, t15], rfl⟩
    · rintro _ τ H' ⟨t9, t11, -⟩ h'
      exact ⟨by simp [Rg, t9, t11], h'⟩
  clear t9 t11 t13 t15 τ
  rintro ⟨τ, H'⟩ ⟨⟨t9, t11, -⟩, h'⟩
  dsimp only at t9 t11 h'
  subst h'
  obtain ⟨f2, g2⟩ := (pc_len (c := c) (x := xc) (H := prot [] HI) hC.f2.len).pc0
  have hcv : CVal c xc = .agg [.int .i64 c.N, .int .i64 c.S, .int .i64 c.T, xc.x1, xc.x2, xc.x3, xc.x4, xc.x5, xc.x6] := rfl
  rw [hcv] at g2
  have c9 : ∀ X, rdn (HI ++ X) k9 0 9 = some [.int .i64 c.N, .int .i64 c.S, .int .i64 c.T, xc.x1, xc.x2, xc.x3, xc.x4, xc.x5, xc.x6] := fun X => rdn_all gc rfl
  have ld6 : lenOf xd.x6 = some c.m := by rw [hmm]; exact hD.f6.len
  refine wa_seq (wa_dreg (s' := _) (by
    simp -implicitDefEqProofs [dinsL, dins, t9, t11, cr, dr, c9, g2, hC.f6.len, ld6, call_yes (k := 50) rfl]
    rfl) (by simp) ?_)
  exact wa_ret ⟨by simp, _, by simp; rfl, rfl⟩
end Go.Proofs.Ytpojdgeginigjaa
/- CsrBack: the walk. -/
set_option linter.unusedSimpArgs false
set_option linter.unusedVariables false
namespace Go.Proofs.Ytpojdgeginigjaa
open Go Go.Ar
set_option maxRecDepth 100000

theorem CA.frame {H H' : Heap} {c : Csr} {x : CV} (h : CA H c x) (e : ∀ k, (x.x1.blk? = some k ∨ x.x2.blk? = some k ∨ x.x3.blk? = some k ∨ x.x4.blk? = some k ∨ x.x5.blk? = some k ∨ x.x6.blk? = some k) → H'[k]? = H[k]?) : CA H' c x :=
  ⟨h.1.frame fun k hk => e k (by simp [hk]), h.2.frame fun k hk => e k (by simp [hk]), h.3.frame fun k hk => e k (by simp [hk]), h.4.frame fun k hk => e k (by simp [hk]), h.5.frame fun k hk => e k (by simp [hk]), h.6.frame fun k hk => e k (by simp [hk])⟩
theorem CA.lt {H : Heap} {c : Csr} {x : CV} (h : CA H c x) : ∀ k, (x.x1.blk? = some k ∨ x.x2.blk? = some k ∨ x.x3.blk? = some k ∨ x.x4.blk? = some k ∨ x.x5.blk? = some k ∨ x.x6.blk? = some k) → k < H.length := fun k hk => by
  rcases hk with hk | hk | hk | hk | hk | hk
  · exact h.1.lt k hk
  · exact h.2.lt k hk
  · exact h.3.lt k hk
  · exact h.4.lt k hk
  · exact h.5.lt k hk
  · exact h.6.lt k hk
theorem most_at {n : Net} {c : Csr} {a k u v b : Nat} (h : At n c a k u v b) (hc : 0 ≤ (n.arcs[k]'h.hk).cap) : mostF c a = (n.arcs[k]'h.hk).cap := by
  unfold mostF
  rw [h.rev]
  simp only [Int.toNat_natCast]
  rcases h.two with ⟨_, _, _, _, e1, e2⟩ | ⟨_, _, _, _, e1, e2⟩ <;> rw [e1, e2] <;> split <;> omega
theorem res_sum {n : Net} {c : Csr} {a k u v b : Nat} {f : Nat → Int} (h : At n c a k u v b) (ha : a < c.m) : resF c f b = (n.arcs[k]'h.hk).cap - resF c f a := by
  rw [resF_at h, resF_at (h.symm ha)]
  rcases h.two with ⟨e3, e4, _, _, e1, e2⟩ | ⟨e3, e4, _, _, e1, e2⟩ <;> rw [e1, e2, e3, e4] <;> simp <;> omega
theorem res_bound {n : Net} {c : Csr} {a k u v b : Nat} {f : Nat → Int} (h : At n c a k u v b) (hf : withinF n.arcs n.arcs.length f) : 0 ≤ resF c f a ∧ resF c f a ≤ (n.arcs[k]'h.hk).cap := by
  rw [resF_at h]
  obtain ⟨f1, f2, _⟩ := hf k h.hk h.hk
  rcases h.two with ⟨e3, e4, _, _, e1, e2⟩ | ⟨e3, e4, _, _, e1, e2⟩ <;> rw [e1, e3] <;> simp <;> omega
theorem flow_g {n : Net} {c : Csr} (hI : IsCsr n c) {f : Nat → Int} (hf : withinF n.arcs n.arcs.length f) : ∀ a, a < c.m → flowG c (resF c f) a := fun a ha => by
  obtain ⟨k, u, v, b, h⟩ := csr_at hI ha
  obtain ⟨f1, f2⟩ := res_bound h hf
  have hm := most_at h (by omega)
  unfold flowG
  rw [hm, h.rev]
  exact ⟨f1, f2, by simpa using res_sum (f := f) h ha⟩
theorem flow_back {n : Net} {c : Csr} (hI : IsCsr n c) {f g : Nat → Int} (hf : withinF n.arcs n.arcs.length f) (hg : FlowI c (resF c f) c.m g) : ∀ j, j < n.arcs.length → g j = f j := fun j hj => by
  obtain ⟨s, d, e1, e2, hs, hd⟩ := hI.inn _ (List.getElem_mem hj)
  by_cases hne : s = d
  · obtain ⟨_, _, f3⟩ := hf j hj hj
    rw [f3 (by omega)]
    refine hg.2 j fun a ha _ e => ?_
    obtain ⟨k, u, v, b, h⟩ := csr_at hI ha
    rw [h.arc] at e
    simp only [Int.toNat_natCast] at e
    subst e
    have := h.iu
    rw [inc_iff] at this
    omega
  · obtain ⟨i1, i2⟩ := inc_l e1 e2 hne
    obtain ⟨_, _, _, _, g4, g5⟩ := hI.fil j hj hj s d e1 e2 hne
    have l2 : pos n.arcs j d < c.m := by rw [hI.m]; have := pos_lt hj i2; have := fst_mono n.arcs (show d + 1 ≤ c.vs from hd); omega
    have := hg.1 _ l2 g5
    rw [g4] at this
    simp only [Int.toNat_natCast] at this
    rw [this]
    unfold resF
    rw [if_pos g5, g4]; simp

/-- Res, with one number changed: right just if that one is within. -/
theorem res_one {n : Net} {c : Csr} {x : CV} {y : V} {f : Nat → Int} {H : Heap} (h : CA H c x) (hI : IsCsr n c) {k : Nat} {w : Int} (hk : k < n.arcs.length) (hkl : n.arcs[k].src ≠ n.arcs[k].dst) (hf : withinF n.arcs n.arcs.length f) (hy : TB H y n.arcs.length fun j => .int .i64 (fupd f k w j)) (hm : c.m ≤ 2 ^ 20) (hcb : capB n.arcs) :
    ∃ v G, ∃ e : Int, callL E (.f 47) [CVal c x, y] H = some (.tup [v, .int .i64 e], H ++ G) ∧ decide (e = 0) = (decide (0 ≤ w) && decide (w ≤ n.arcs[k].cap)) := by
  by_cases hw : 0 ≤ w ∧ w ≤ n.arcs[k].cap
  · have hf' : ∀ a, a < c.m → resG c (fupd f k w) a := fun a ha => by
      obtain ⟨k', u, v, b, h1⟩ := csr_at hI ha
      unfold resG
      rw [h1.arc]
      simp only [Int.toNat_natCast]
      rcases h1.two with ⟨_, _, _, _, e, _⟩ | ⟨e, _⟩
      · right
        rw [e]
        unfold fupd
        split
        · rename_i e; subst e; exact hw
        · obtain ⟨f1, f2, _⟩ := hf k' h1.hk h1.hk
          exact ⟨f1, f2⟩
      · exact .inl e
    obtain ⟨F, G, e1⟩ := res_ok h hy hm (csr_k hI) (csr_c hI hcb) hf'
    rw [List.append_assoc] at e1
    exact ⟨_, F ++ (rI c.m (resF c (fupd f k w)) :: G), 0, e1, by simp [hw.1, hw.2]⟩
  · obtain ⟨s, d, e1, e2, hs, hd⟩ := hI.inn _ (List.getElem_mem hk)
    have hne : s ≠ d := by omega
    obtain ⟨i1, i2⟩ := inc_l e1 e2 hne
    obtain ⟨⟨g1, g2, g3, g4, g5⟩, _⟩ := hI.fil k hk hk s d e1 e2 hne
    have l1 : pos n.arcs k s < c.m := by rw [hI.m]; have := pos_lt hk i1; have := fst_mono n.arcs (show s + 1 ≤ c.vs from hs); omega
    obtain ⟨G, e1⟩ := res_bad h hy hm (csr_k hI) (csr_c hI hcb) l1 (fun hb => by
      unfold resG at hb
      rw [g4, g5, g3] at hb
      simp only [Int.toNat_natCast, fupd] at hb
      rcases hb with hb | hb
      · cases hb
      · exact hw (by simpa using hb))
    refine ⟨_, G, 20, e1, ?_⟩
    have : ¬ (0 ≤ w ∧ w ≤ n.arcs[k].cap) := hw
    simp only [← Bool.decide_and]
    rw [decide_eq_false this]; rfl
/-- Flow, with one number more: refused. -/
theorem flow_one {n : Net} {c : Csr} {x : CV} {y : V} {f : Nat → Int} {H : Heap} (h : CA H c x) (hI : IsCsr n c) {a0 : Nat} (ha0 : a0 < c.m) (hf : withinF n.arcs n.arcs.length f) (hy : TB H y c.m fun j => .int .i64 (fupd (resF c f) a0 (resF c f a0 + 1) j)) (hm : c.m ≤ 2 ^ 20) (hl : n.arcs.length ≤ 16384) (hcb : capB n.arcs) :
    ∃ G, callL E (.f 51) [CVal c x, y, .int .i64 n.arcs.length] H = some (.tup [.nils, .int .i64 20], H ++ G) := by
  obtain ⟨v, H', h1, ⟨h2, _⟩ | ⟨_, G, rfl, rfl⟩⟩ := flow_walk h hy hm hl (csr_k hI) (csr_r hI) (csr_c hI hcb) (csr_inj hI)
  · exfalso
    have h3 := h2 a0 ha0
    obtain ⟨k, u, v, b, p⟩ := csr_at hI ha0
    have hm := most_at p (hcb _ (List.getElem_mem p.hk)).1
    have hs := res_sum (f := f) p ha0
    have hib : b ≠ a0 := fun e => p.ne (pos_inj p.hk p.hk p.iu p.iv (by rw [← p.ea, ← p.eb]; exact e.symm)).2
    unfold flowG at h3
    rw [hm, p.rev] at h3
    simp only [Int.toNat_natCast, fupd, if_true, if_neg hib] at h3
    omega
  · exact ⟨G, h1⟩

set_option maxHeartbeats 8000000 in
theorem csrback_law {H : Heap} {n : Net} {a z : V} {zs : List Int} {at' w : Int} (hin : NetIn H n a) (hz : IL .i64 H z zs) (hzb : ∀ x, x ∈ zs → i64b x) (hat : 0 ≤ at' ∧ at' ≤ 255) (hw : i64b w) : ∃ v H', callL E (.f 11) [NV n a, z, .int .u8 at', .int .i64 w] H = some (v, H') ∧ v = .bool true := by
  refine call_E rfl nc11 rfl ?_
  unfold gc11
  obtain ⟨hc0, hlen, hN2, hN40, hcap⟩ := some_facts (n := n) (vs := 40) (m := 80) (by omega) (by omega) (by omega) (fun x hx => (hin.arc x hx).2.2)
  obtain ⟨x, H1, HA, s1, s2, gb, hA, hSl, hHp, hxs⟩ := some_pre hin (vs := 40) (ms := 80) (m := 80) rfl (by omega) (by omega) (by omega)
  have hcb := capB_some hcap
  generalize someN n 40 80 = m at *
  unfold NV nbox at s1
  unfold NV
  have hl : lenOf a = some n.arcs.length := Rw.len hin.al
  have hzA := hHp.il hz
  refine wa_sr ⟨_, by simp [len_cells hl]; rfl, ?_⟩
  refine wa_sr ⟨_, by simp -implicitDefEqProofs [s1, s2, hxs]; rfl, ?_⟩
  have lk1 := lt_of_get gb
  -- what is within
  obtain ⟨f, F, G, hf, e1⟩ := within_ok hA hzA hzb hcb (by omega)
  have b4 := rdn_all (X := []) (n := 4) gb rfl
  rw [List.append_nil] at b4
  unfold NV at e1
  refine wa_sr ⟨_, by simp -implicitDefEqProofs [b4, e1]; rfl, ?_⟩
  have hxlt := Rw.lt hA
  have hA := hA.app (F ++ (rI m.arcs.length f :: G))
  have gb := get_pre (X := F ++ (rI m.arcs.length f :: G)) gb
  have gf : (HA ++ F ++ (rI m.arcs.length f :: G))[(HA ++ F).length]? = some (rI m.arcs.length f) := by simp
  rw [List.append_assoc] at e1 gf
  have hkfA : HA.length ≤ (HA ++ F).length := by simp
  refine wa_rg [(2, .int .u8 at'), (3, .int .i64 w), (4, .ptr H.length 0), (9, .sl (HA ++ F).length 0 m.arcs.length m.arcs.length)] (by simp [Rg]) ?_
  clear b4
  generalize (HA ++ F).length = kf at *
  change ∀ τ', Rg τ' _ → WP E _ ⟨τ', HA ++ (F ++ (rI m.arcs.length f :: G))⟩ _
  generalize HA ++ (F ++ (rI m.arcs.length f :: G)) = HC at *
  generalize H.length = k1 at *
  rintro τ ⟨t2, t3, t4, t9, -⟩
  dsimp only at t2 t3 t4 t9
  clear e1 hzA s1 s2
  -- the row of the net
  obtain ⟨c, xc, G, e1, hC, hI, hge⟩ := make_ok hA hc0
  have lkf := lt_of_get gf
  have hcm := csr_m hI
  have hvs : c.vs ≤ 40 := by have := hI.vs; omega
  unfold NV CVal at e1
  have b4 := rdn_all (X := []) (n := 4) gb rfl
  rw [List.append_nil] at b4
  have hA := hA.app G
  have gf := get_pre (X := G) gf
  have gb := get_pre (X := G) gb
  have hcge : ∀ k, (xc.x1.blk? = some k ∨ xc.x2.blk? = some k ∨ xc.x3.blk? = some k ∨ xc.x4.blk? = some k ∨ xc.x5.blk? = some k ∨ xc.x6.blk? = some k) → k ≠ kf := fun k hk e => by have := hge k hk; omega
  have hZC : HC.length ≤ (HC ++ G).length := by simp
  generalize HC ++ G = HZ at *
  refine wa_sr ⟨_, by simp -implicitDefEqProofs [t4, b4, e1, hC.s1, hC.s2, hC.s3, hC.s4, hC.s5, hC.s6]; rfl, ?_⟩
  have hA := hA.app [cbox c xc]
  have gf := get_pre (X := [cbox c xc]) gf
  have gb := get_pre (X := [cbox c xc]) gb
  have hC := hC.app [cbox c xc]
  have gc : (HZ ++ [cbox c xc])[HZ.length]? = some (cbox c xc) := by simp
  refine wa_rg [(2, .int .u8 at'), (3, .int .i64 w), (4, .ptr k1 0), (9, .sl kf 0 m.arcs.length m.arcs.length), (10, .ptr HZ.length 0), (11, .int .i64 0)] (by simp [Rg, t2, t3, t4, t9]) ?_
  change ∀ τ', Rg τ' _ → WP E _ ⟨τ', HZ ++ [cbox c xc]⟩ _
  have hkc : HZ.length < (HZ ++ [cbox c xc]).length := by simp
  have hckf : HZ.length ≠ kf := by omega
  generalize HZ ++ [cbox c xc] = HD at *
  generalize HZ.length = k10 at *
  clear e1 b4 t2 t3 t4 t9 τ
  rintro τ ⟨t2, t3, t4, t9, t10, t11, -⟩
  dsimp only at t2 t3 t4 t9 t10 t11
  -- what is left
  have hF : TB HD (.sl kf 0 m.arcs.length m.arcs.length) m.arcs.length fun j => .int .i64 (f j) := TB.own (G := []) gf
  obtain ⟨F1, G1, e1⟩ := res_ok hC hF (by omega) (csr_k hI) (csr_c hI hcb) (csr_g hI hf)
  have c9 := rdn_all (X := []) (n := 9) gc rfl
  rw [List.append_nil] at c9
  unfold CVal at e1
  rw [List.append_assoc] at e1
  refine wa_sr ⟨_, by simp -implicitDefEqProofs [t9, t10, c9, e1]; rfl, ?_⟩
  have gr : (HD ++ (F1 ++ (rI c.m (resF c f) :: G1)))[(HD ++ F1).length]? = some (rI c.m (resF c f)) := by rw [← List.append_assoc]; simp
  have hcr : ∀ k, (xc.x1.blk? = some k ∨ xc.x2.blk? = some k ∨ xc.x3.blk? = some k ∨ xc.x4.blk? = some k ∨ xc.x5.blk? = some k ∨ xc.x6.blk? = some k) → k ≠ (HD ++ F1).length := fun k hk e => by have := hC.lt k hk; simp at e; omega
  have hrf : (HD ++ F1).length ≠ kf := by have := lt_of_get gf; simp; omega
  have hk12A : HA.length ≤ (HD ++ F1).length := by have := lt_of_get gf; simp; omega
  have hr1 : (HD ++ F1).length ≠ k1 := by have := lt_of_get gb; simp; omega
  have hr10 : (HD ++ F1).length ≠ k10 := by have := lt_of_get gc; simp; omega
  have hA := hA.app (F1 ++ (rI c.m (resF c f) :: G1))
  have gf := get_pre (X := F1 ++ (rI c.m (resF c f) :: G1)) gf
  have gb := get_pre (X := F1 ++ (rI c.m (resF c f) :: G1)) gb
  have hC := hC.app (F1 ++ (rI c.m (resF c f) :: G1))
  have gc := get_pre (X := F1 ++ (rI c.m (resF c f) :: G1)) gc
  refine wa_rg [(2, .int .u8 at'), (3, .int .i64 w), (4, .ptr k1 0), (9, .sl kf 0 m.arcs.length m.arcs.length), (10, .ptr k10 0), (11, .int .i64 0), (12, .sl (HD ++ F1).length 0 c.m c.m), (13, .int .i64 0)] (by simp [Rg, t2, t3, t4, t9, t10, t11]) ?_
  change ∀ τ', Rg τ' _ → WP E _ ⟨τ', HD ++ (F1 ++ (rI c.m (resF c f) :: G1))⟩ _
  generalize HD ++ (F1 ++ (rI c.m (resF c f) :: G1)) = HG at *
  generalize (HD ++ F1).length = k12 at *
  clear e1 c9 hF t2 t3 t4 t9 t10 t11 τ
  rintro τ ⟨t2, t3, t4, t9, t10, t11, t12, t13, -⟩
  dsimp only at t2 t3 t4 t9 t10 t11 t12 t13
  have hcv : CVal c xc = .agg [.int .i64 c.N, .int .i64 c.S, .int .i64 c.T, xc.x1, xc.x2, xc.x3, xc.x4, xc.x5, xc.x6] := rfl
  have c9 := rdn_all (X := []) (n := 9) gc rfl
  rw [List.append_nil] at c9
  obtain ⟨G0, g1⟩ := (pc_len (c := c) (x := xc) (H := HG) hC.f2.len).run
  rw [hcv] at g1
  refine wa_sr ⟨_, by simp -implicitDefEqProofs [t10, t11, t12, t13, c9, g1]; rfl, ?_⟩
  refine wa_if (t := false) (by simp) (fun h => by cases h) (fun _ => ?_)
  have hA := hA.app G0
  have gf := get_pre (X := G0) gf
  have gb := get_pre (X := G0) gb
  have gr := get_pre (X := G0) gr
  have hC := hC.app G0
  have gc := get_pre (X := G0) gc
  refine wa_rg [(2, .int .u8 at'), (3, .int .i64 w), (4, .ptr k1 0), (9, .sl kf 0 m.arcs.length m.arcs.length), (10, .ptr k10 0), (12, .sl k12 0 c.m c.m)] (by simp [Rg, t2, t3, t4, t9, t10, t12]) ?_
  change ∀ τ', Rg τ' _ → WP E _ ⟨τ', HG ++ G0⟩ _
  generalize HG ++ G0 = HE at *
  clear c9 g1 t2 t3 t4 t9 t10 t11 t12 t13 τ
  rintro τ ⟨t2, t3, t4, t9, t10, t12, -⟩
  dsimp only at t2 t3 t4 t9 t10 t12
  have hR : TB HE (.sl k12 0 c.m c.m) c.m fun j => .int .i64 (resF c f j) := TB.own (G := []) gr
  have cr : ∀ o, rd HE k10 o = [V.int .i64 c.N, .int .i64 c.S, .int .i64 c.T, xc.x1, xc.x2, xc.x3, xc.x4, xc.x5, xc.x6][o]? := fun o => rd_get gc
  have br : ∀ o, rd HE k1 o = [V.int .i64 m.N, .int .i64 m.S, .int .i64 m.T, x][o]? := fun o => rd_get gb
  refine wa_sr ⟨_, by simp -implicitDefEqProofs [t12]; rfl, ?_⟩
  refine wa_cut (fun s => Rg s.τ [(2, .int .u8 at'), (3, .int .i64 w), (4, .ptr k1 0), (9, .sl kf 0 m.arcs.length m.arcs.length), (10, .ptr k10 0), (12, .sl k12 0 c.m c.m)] ∧ s.H = HE) ?_ ?_
  · refine wa_for (n := c.m) (fun i (_ : Unit) => [(2, .int .u8 at'), (3, .int .i64 w), (4, .ptr k1 0), (9, .sl kf 0 m.arcs.length m.arcs.length), (10, .ptr k10 0), (12, .sl k12 0 c.m c.m), (52, .sl k12 0 c.m c.m)]) (fun i _ H' => H' = HE) ()
      (by decide) (fun i hi => w64 (by omega) (by omega)) (by simp) (by simp) (by simp [Rg, t2, t3, t4, t9, t10, t12]) rfl (by simp) ?_ ?_
    · clear t2 t3 t4 t9 t10 t12 τ
      rintro i _ τ HX hi t54 t53 ⟨t2, t3, t4, t9, t10, t12, t52, -⟩ rfl
      dsimp only [ev] at *
      obtain ⟨k, u, v, b, h⟩ := csr_at hI hi
      have hbm := h.hb
      have hkl := h.hk
      obtain ⟨q3, o3, c3, e3, r3⟩ := hC.f3.at0 hi
      obtain ⟨q5, o5, c5, e5, r5⟩ := hC.f5.at0 hi
      rw [h.rev] at r3
      rw [h.arc] at r5
      obtain ⟨qr, or', cr', er, rr⟩ := hR.at0 hi
      obtain ⟨qs, os, cs, es, rs⟩ := hR.at0 hbm
      cases er
      cases es
      obtain ⟨qx, ox, cx, ex, hqx, _, rx⟩ := hA.at hkl
      have rx2 : rd HX qx (ox + k * 3 + 2) = some (.int .i64 m.arcs[k].cap) := rd_of_rdn rx (j := 2) (by omega)
      obtain ⟨b1, b2⟩ := res_bound h hf
      obtain ⟨b3, b4⟩ := hcb _ (List.getElem_mem hkl)
      unfold big at b4
      rw [res_sum h hi, Nat.zero_add] at rs
      rw [Nat.zero_add] at rr
      have hn0 : ¬ (resF c f i < 0) := by omega
      have hws : IntKind.i64.wrap (m.arcs[k].cap - resF c f i) = m.arcs[k].cap - resF c f i := w64 (by omega) (by omega)
      generalize resF c f i = ri at *
      refine wa_sr ⟨_, by simp -implicitDefEqProofs [t54, t52, hi, rr]; rfl, ?_⟩
      refine wa_dr rfl rfl ⟨_, by simp -implicitDefEqProofs [t54, t4, t10, t12, cr, br, hn0, e3, hi, r3, hbm, rs, e5, r5, ex, hkl, rx2, hws]; rfl, ?_⟩
      refine wa_cond (t := false) (by simp) (fun h => by cases h) (fun _ => wa_skip ?_)
      exact ⟨by simp [t54], by simp [t53], (), by simp [Rg, t2, t3, t4, t9, t10, t12, t52], rfl⟩
    · rintro _ τ H' ⟨t2, t3, t4, t9, t10, t12, -⟩ h'
      exact ⟨by simp [Rg, t2, t3, t4, t9, t10, t12], h'⟩
  clear t2 t3 t4 t9 t10 t12 τ
  rintro ⟨τ, H'⟩ ⟨⟨t2, t3, t4, t9, t10, t12, -⟩, h'⟩
  dsimp only at t2 t3 t4 t9 t10 t12 h'
  subst h'
  -- the flow of which so much is left
  obtain ⟨g, F2, G2, hgI, e1⟩ : ∃ g F2 G2, FlowI c (resF c f) c.m g ∧ callL E (.f 51) [CVal c xc, .sl k12 0 c.m c.m, .int .i64 m.arcs.length] H' = some (.tup [.sl (H' ++ F2).length 0 m.arcs.length m.arcs.length, .int .i64 0], H' ++ (F2 ++ (rI m.arcs.length g :: G2))) := by
    obtain ⟨v, H'', h1, ⟨_, g, F, G, h2, rfl, rfl⟩ | ⟨⟨q, h2, h3⟩, _⟩⟩ := flow_walk hC hR (by omega) (by omega) (csr_k hI) (csr_r hI) (csr_c hI hcb) (csr_inj hI)
    · rw [List.append_assoc] at h1
      exact ⟨g, F, G, h2, h1⟩
    · exact absurd (flow_g hI hf q h2) h3
  have c9 := rdn_all (X := []) (n := 9) gc rfl
  rw [List.append_nil] at c9
  rw [hcv] at e1
  refine wa_sr ⟨_, by simp -implicitDefEqProofs [t9, t10, t12, c9, e1]; rfl, ?_⟩
  have hB : TB (H' ++ (F2 ++ (rI m.arcs.length g :: G2))) (.sl (H' ++ F2).length 0 m.arcs.length m.arcs.length) m.arcs.length fun j => .int .i64 (f j) := (TB.own (G := []) (m := .ex) (by rw [← List.append_assoc]; simp [rI]) : TB _ _ m.arcs.length fun j => .int .i64 (g j)).congr fun j hj => by rw [flow_back hI hf hgI j hj]
  have hA := hA.app (F2 ++ (rI m.arcs.length g :: G2))
  have gf := get_pre (X := F2 ++ (rI m.arcs.length g :: G2)) gf
  have gb := get_pre (X := F2 ++ (rI m.arcs.length g :: G2)) gb
  have gr := get_pre (X := F2 ++ (rI m.arcs.length g :: G2)) gr
  have hC := hC.app (F2 ++ (rI m.arcs.length g :: G2))
  have gc := get_pre (X := F2 ++ (rI m.arcs.length g :: G2)) gc
  refine wa_rg [(2, .int .u8 at'), (3, .int .i64 w), (4, .ptr k1 0), (9, .sl kf 0 m.arcs.length m.arcs.length), (10, .ptr k10 0), (12, .sl k12 0 c.m c.m), (16, .sl (H' ++ F2).length 0 m.arcs.length m.arcs.length), (17, .int .i64 0)] (by simp [Rg, t2, t3, t4, t9, t10, t12]) ?_
  change ∀ τ', Rg τ' _ → WP E _ ⟨τ', H' ++ (F2 ++ (rI m.arcs.length g :: G2))⟩ _
  clear c9 e1 t2 t3 t4 t9 t10 t12 τ hR cr br
  generalize H' ++ (F2 ++ (rI m.arcs.length g :: G2)) = HI at *
  generalize (H' ++ F2).length = k16 at *
  rintro τ ⟨t2, t3, t4, t9, t10, t12, t16, t17, -⟩
  dsimp only at t2 t3 t4 t9 t10 t12 t16 t17
  have hF : TB HI (.sl kf 0 m.arcs.length m.arcs.length) m.arcs.length fun j => .int .i64 (f j) := TB.own (G := []) gf
  obtain ⟨G0, g1⟩ := (pc_longs hB hF (by omega)).run
  refine wa_sr ⟨_, by simp -implicitDefEqProofs [t16, t17, t9, g1]; rfl, ?_⟩
  refine wa_if (t := false) (by simp) (fun h => by cases h) (fun _ => ?_)
  have hA := hA.app G0
  have gf := get_pre (X := G0) gf
  have gb := get_pre (X := G0) gb
  have gr := get_pre (X := G0) gr
  have hC := hC.app G0
  have gc := get_pre (X := G0) gc
  refine wa_rg [(2, .int .u8 at'), (3, .int .i64 w), (4, .ptr k1 0), (9, .sl kf 0 m.arcs.length m.arcs.length), (10, .ptr k10 0), (12, .sl k12 0 c.m c.m)] (by simp [Rg, t2, t3, t4, t9, t10, t12]) ?_
  change ∀ τ', Rg τ' _ → WP E _ ⟨τ', HI ++ G0⟩ _
  generalize HI ++ G0 = HJ at *
  clear g1 t2 t3 t4 t9 t10 t12 t16 t17 τ hB hF
  rintro τ ⟨t2, t3, t4, t9, t10, t12, -⟩
  dsimp only at t2 t3 t4 t9 t10 t12
  refine wa_sr ⟨_, by simp -implicitDefEqProofs [t12]; rfl, ?_⟩
  by_cases hm0 : c.m = 0
  · refine wa_if (t := true) (by simp [hm0]) (fun _ => ?_) (fun h => by cases h)
    refine wa_sr ⟨_, by simp -implicitDefEqProofs [call_yes (k := 50) rfl]; rfl, ?_⟩
    exact wa_rt ⟨by simp, _, by simp; rfl, rfl⟩
  refine wa_if (t := false) (by simp [hm0]) (fun h => by cases h) (fun _ => ?_)
  -- one number is changed
  have hw1 : IntKind.i64.wrap at' = at' := w64 (by omega) (by omega)
  obtain ⟨a0, ha0, hat0⟩ : ∃ a0 : Nat, a0 < c.m ∧ at'.tmod (c.m : Int) = (a0 : Int) := by
    refine ⟨(at'.tmod (c.m : Int)).toNat, ?_, ?_⟩
    · have := Int.emod_lt_of_pos at' (show (0 : Int) < c.m by omega)
      rw [Int.tmod_eq_emod_of_nonneg hat.1]
      have h2 := Int.emod_nonneg at' (show (c.m : Int) ≠ 0 by omega)
      omega
    · rw [Int.tmod_eq_emod_of_nonneg hat.1]
      have h2 := Int.emod_nonneg at' (show (c.m : Int) ≠ 0 by omega)
      omega
  obtain ⟨k, u, v, b, h⟩ := csr_at hI ha0
  have hkl := h.hk
  have hkne : m.arcs[k].src ≠ m.arcs[k].dst := by have := h.iu; rw [inc_iff] at this; exact this.1
  have cr : ∀ X o, rd (HJ ++ X) k10 o = [V.int .i64 c.N, .int .i64 c.S, .int .i64 c.T, xc.x1, xc.x2, xc.x3, xc.x4, xc.x5, xc.x6][o]? := fun X o => rd_pre gc
  have cre := cr []
  simp only [List.append_nil] at cre
  obtain ⟨q5, o5, c5, e5, r5⟩ := hC.f5.at0 ha0
  rw [h.arc] at r5
  have hmz : ¬ ((c.m : Int) = 0) := by omega
  refine wa_dr rfl rfl ⟨_, by simp -implicitDefEqProofs [t2, t10, t12, cre, hw1, hm0, hat0, e5, ha0, r5]; rfl, ?_⟩
  have hwf : wr HJ kf k [.int .i64 w] = some (HJ.set kf (rI m.arcs.length (fupd f k w))) := by
    rw [wr1 gf rfl (by simpa using hkl) rfl, tb_set]
    unfold rI
    rw [tb_congr fun j _ => show (if j = k then V.int .i64 w else V.int .i64 (f j)) = V.int .i64 (fupd f k w j) by unfold fupd; split <;> rfl]
  refine wa_sr ⟨_, by simp -implicitDefEqProofs [t3, t9, hkl, hwf]; rfl, ?_⟩
  have lkf := lt_of_get gf
  have oJ : ∀ j, j ≠ kf → (HJ.set kf (rI m.arcs.length (fupd f k w)))[j]? = HJ[j]? := fun j hj => List.getElem?_set_ne (fun e => hj e.symm)
  have gf' : (HJ.set kf (rI m.arcs.length (fupd f k w)))[kf]? = some (rI m.arcs.length (fupd f k w)) := List.getElem?_set_self lkf
  have hA : AL (HJ.set kf (rI m.arcs.length (fupd f k w))) x m.arcs := Rw.frame hA fun j hj => oJ j (by have := hxlt j hj; omega)
  have gb : (HJ.set kf (rI m.arcs.length (fupd f k w)))[k1]? = _ := (oJ k1 (by omega)).trans gb
  have gr : (HJ.set kf (rI m.arcs.length (fupd f k w)))[k12]? = _ := (oJ k12 hrf).trans gr
  have gc : (HJ.set kf (rI m.arcs.length (fupd f k w)))[k10]? = _ := (oJ k10 hckf).trans gc
  have hC : CA (HJ.set kf (rI m.arcs.length (fupd f k w))) c xc := hC.frame fun j hj => oJ j (hcge j hj)
  refine wa_rg [(2, .int .u8 at'), (3, .int .i64 w), (4, .ptr k1 0), (9, .sl kf 0 m.arcs.length m.arcs.length), (10, .ptr k10 0), (12, .sl k12 0 c.m c.m), (18, .int .i64 k)] (by simp [Rg, t2, t3, t4, t9, t10, t12]) ?_
  clear t2 t3 t4 t9 t10 t12 τ hwf cr cre r5
  generalize HJ.set kf (rI m.arcs.length (fupd f k w)) = HK at *
  rintro τ ⟨t2, t3, t4, t9, t10, t12, t18, -⟩
  dsimp only at t2 t3 t4 t9 t10 t12 t18
  have hF : TB HK (.sl kf 0 m.arcs.length m.arcs.length) m.arcs.length fun j => .int .i64 (fupd f k w j) := TB.own (G := []) gf'
  obtain ⟨y, G3, e, e1, he⟩ := res_one hC hI hkl hkne hf hF (by omega) hcb
  have c9 := rdn_all (X := []) (n := 9) gc rfl
  rw [List.append_nil] at c9
  rw [hcv] at e1
  refine wa_sr ⟨_, by simp -implicitDefEqProofs [t9, t10, c9, e1]; rfl, ?_⟩
  have hA := hA.app G3
  have gb := get_pre (X := G3) gb
  have gr := get_pre (X := G3) gr
  have gf' := get_pre (X := G3) gf'
  have hC := hC.app G3
  have gc := get_pre (X := G3) gc
  refine wa_rg [(2, .int .u8 at'), (3, .int .i64 w), (4, .ptr k1 0), (9, .sl kf 0 m.arcs.length m.arcs.length), (10, .ptr k10 0), (12, .sl k12 0 c.m c.m), (18, .int .i64 k), (20, .int .i64 e)] (by simp [Rg, t2, t3, t4, t9, t10, t12, t18]) ?_
  change ∀ τ', Rg τ' _ → WP E _ ⟨τ', HK ++ G3⟩ _
  clear t2 t3 t4 t9 t10 t12 t18 τ c9 e1 hF
  generalize HK ++ G3 = HL at *
  rintro τ ⟨t2, t3, t4, t9, t10, t12, t18, t20, -⟩
  dsimp only at t2 t3 t4 t9 t10 t12 t18 t20
  -- one more is left
  obtain ⟨b1, b2⟩ := res_bound h hf
  obtain ⟨b3, b4⟩ := hcb _ (List.getElem_mem hkl)
  unfold big at b4
  have hwr : IntKind.i64.wrap (resF c f a0 + 1) = resF c f a0 + 1 := w64 (by omega) (by omega)
  have hr0 : rd HL k12 a0 = some (.int .i64 (resF c f a0)) := by rw [rd_get gr]; simp [ha0]
  have hwg : wr HL k12 a0 [.int .i64 (resF c f a0 + 1)] = some (HL.set k12 (rI c.m (fupd (resF c f) a0 (resF c f a0 + 1)))) := by
    rw [wr1 gr rfl (by simpa using ha0) rfl, tb_set]
    unfold rI
    rw [tb_congr fun j _ => show (if j = a0 then V.int .i64 (resF c f a0 + 1) else V.int .i64 (resF c f j)) = V.int .i64 (fupd (resF c f) a0 (resF c f a0 + 1) j) by unfold fupd; split <;> rfl]
  refine wa_sr ⟨_, by simp -implicitDefEqProofs [t2, t12, hw1, hm0, hat0, ha0, hr0, hwr, hwg]; rfl, ?_⟩
  have oJ : ∀ j, j ≠ k12 → (HL.set k12 (rI c.m (fupd (resF c f) a0 (resF c f a0 + 1))))[j]? = HL[j]? := fun j hj => List.getElem?_set_ne (fun e => hj e.symm)
  have gr' : (HL.set k12 (rI c.m (fupd (resF c f) a0 (resF c f a0 + 1))))[k12]? = some (rI c.m (fupd (resF c f) a0 (resF c f a0 + 1))) := List.getElem?_set_self (lt_of_get gr)
  have gb : (HL.set k12 (rI c.m (fupd (resF c f) a0 (resF c f a0 + 1))))[k1]? = _ := (oJ k1 (fun e => hr1 e.symm)).trans gb
  have gc : (HL.set k12 (rI c.m (fupd (resF c f) a0 (resF c f a0 + 1))))[k10]? = _ := (oJ k10 (fun e => hr10 e.symm)).trans gc
  have hC : CA (HL.set k12 (rI c.m (fupd (resF c f) a0 (resF c f a0 + 1)))) c xc := hC.frame fun j hj => oJ j (hcr j hj)
  have hA : AL (HL.set k12 (rI c.m (fupd (resF c f) a0 (resF c f a0 + 1)))) x m.arcs := Rw.frame hA fun j hj => oJ j (by have := hxlt j hj; omega)
  refine wa_rg [(3, .int .i64 w), (4, .ptr k1 0), (9, .sl kf 0 m.arcs.length m.arcs.length), (10, .ptr k10 0), (12, .sl k12 0 c.m c.m), (18, .int .i64 k), (20, .int .i64 e)] (by simp [Rg, t2, t3, t4, t9, t10, t12, t18, t20]) ?_
  clear t2 t3 t4 t9 t10 t12 t18 t20 τ hr0 hwg oJ
  generalize HL.set k12 (rI c.m (fupd (resF c f) a0 (resF c f a0 + 1))) = HM at *
  rintro τ ⟨t3, t4, t9, t10, t12, t18, t20, -⟩
  dsimp only at t3 t4 t9 t10 t12 t18 t20
  have hR : TB HM (.sl k12 0 c.m c.m) c.m fun j => .int .i64 (fupd (resF c f) a0 (resF c f a0 + 1) j) := TB.own (G := []) gr'
  obtain ⟨G4, e1⟩ := flow_one hC hI ha0 hf hR (by omega) (by omega) hcb
  have c9 := rdn_all (X := []) (n := 9) gc rfl
  rw [List.append_nil] at c9
  rw [hcv] at e1
  refine wa_sr ⟨_, by simp -implicitDefEqProofs [t9, t10, t12, c9, e1]; rfl, ?_⟩
  obtain ⟨qx, ox, cx, ex, hqx, rx, _⟩ := hA.at hkl
  have rx2 : rd (HM ++ G4) qx (ox + k * 3 + 2) = some (.int .i64 m.arcs[k].cap) := rd_of_rdn (rx G4) (j := 2) (by omega)
  have br : rd (HM ++ G4) k1 3 = some x := rd_pre gb
  have he' : (e == 0) = (decide (0 ≤ w) && decide (w ≤ m.arcs[k].cap)) := by rw [← he, Bool.eq_iff_iff]; simp
  by_cases hw0 : 0 ≤ w
  · rw [decide_eq_true hw0, Bool.true_and] at he'
    refine wa_sr ⟨_, by simp -implicitDefEqProofs [t3, t4, t18, t20, hw0, br, ex, hkl, rx2, he', call_yes (k := 50) rfl]; rfl, ?_⟩
    exact wa_ret ⟨by simp, _, by simp; rfl, rfl⟩
  · rw [decide_eq_false hw0, Bool.false_and] at he'
    refine wa_sr ⟨_, by simp -implicitDefEqProofs [t3, t4, t18, t20, hw0, he', call_yes (k := 50) rfl]; rfl, ?_⟩
    exact wa_ret ⟨by simp, _, by simp; rfl, rfl⟩
end Go.Proofs.Ytpojdgeginigjaa
/- The flat code of functions. -/
set_option linter.unusedSimpArgs false
set_option linter.unusedVariables false
namespace Go.Proofs.Ytpojdgeginigjaa
open Go Go.Ar
set_option maxRecDepth 100000
def gc100 : MC := (.seq (.reg [⟨(.some 4), (.mv (.c .nils)), .none⟩]) (.seq (.reg [⟨(.some 9), (.mv (.t 1)), .none⟩, ⟨(.some 10), (.bin .lss (.t 9) (.c (.int .i64 0))), .none⟩]) (.seq (.cond (.t 10) (.reg [⟨(.some 11), .bad, .none⟩, ⟨.none, .bad, .none⟩]) .skip) (.seq (.reg [⟨(.some 13), (.mv (.t 0)), .none⟩, ⟨(.some 14), (.len (.t 13)), .none⟩, ⟨(.some 15), (.conv .u64 (.t 14)), .none⟩, ⟨(.some 16), (.mv (.t 1)), .none⟩, ⟨(.some 17), (.conv .u64 (.t 16)), .none⟩, ⟨(.some 18), (.call (.c (.fn 129 [] [])) [(.t 15), (.t 17)]), .none⟩, ⟨(.some 12), (.mv (.t 18)), .none⟩, ⟨(.some 19), (.ext (.t 12) 0), .none⟩, ⟨(.some 20), (.ext (.t 12) 1), .none⟩, ⟨(.some 5), (.mv (.t 19)), .none⟩, ⟨(.some 6), (.mv (.t 20)), .none⟩]) (.seq (.reg [⟨(.some 21), (.mv (.t 5)), .none⟩, ⟨(.some 22), (.bin .gtr (.t 21) (.c (.int .u64 0))), .none⟩, ⟨(.some 23), (.mv (.t 22)), .none⟩, ⟨(.some 24), (.mv (.t 6)), (.some (23, .false))⟩, ⟨(.some 25), (.bin .gtr (.t 24) (.c (.int .u64 9223372036854775807))), (.some (23, .false))⟩, ⟨(.some 26), (.pick (.t 23) (.c (.bool .true)) (.t 25)), .none⟩]) (.seq (.cond (.t 26) (.reg [⟨(.some 27), .bad, .none⟩, ⟨.none, .bad, .none⟩]) .skip) (.seq (.reg [⟨(.some 28), (.mv (.t 6)), .none⟩, ⟨(.some 29), (.conv .i64 (.t 28)), .none⟩, ⟨(.some 30), (.mkslice 1 8 [(.int .i64 0)] (.t 29)), .none⟩, ⟨(.some 7), (.mv (.t 30)), .none⟩]) (.seq (.reg [⟨(.some 31), (.mv (.t 7)), .none⟩, ⟨(.some 32), (.mv (.t 0)), .none⟩, ⟨(.some 33), (.copy 1 (.t 31) (.t 32)), .none⟩, ⟨(.some 8), (.mv (.t 33)), .none⟩]) (.seq (.block 0 (.loop (.seq (.reg [⟨(.some 34), (.mv (.t 8)), .none⟩, ⟨(.some 35), (.mv (.t 7)), .none⟩, ⟨(.some 36), (.len (.t 35)), .none⟩, ⟨(.some 37), (.bin .lss (.t 34) (.t 36)), .none⟩]) (.seq (.cond (.t 37) .skip (.exit 0)) (.block 1 (.dreg 0 [(.plain, ⟨(.some 38), (.mv (.t 8)), .none⟩), (.plain, ⟨(.some 39), (.mv (.t 7)), .none⟩), (.plain, ⟨(.some 40), (.mv (.t 8)), .none⟩), (.plain, ⟨(.some 41), (.slc 1 (.t 39) (.some (.t 40)) .none), .none⟩), (.plain, ⟨(.some 42), (.mv (.t 7)), .none⟩), (.plain, ⟨(.some 43), (.mv (.t 8)), .none⟩), (.plain, ⟨(.some 44), (.slc 1 (.t 42) .none (.some (.t 43))), .none⟩), (.plain, ⟨(.some 45), (.copy 1 (.t 41) (.t 44)), .none⟩), (.plain, ⟨(.some 46), (.bin .add (.t 38) (.t 45)), .none⟩), (.plain, ⟨(.some 8), (.mv (.t 46)), .none⟩)] [])))))) (.seq (.reg [⟨(.some 47), (.mv (.t 7)), .none⟩, ⟨(.some 4), (.mv (.t 47)), .none⟩]) .ret))))))))))
theorem nc100 : nc Try.prog 100 = some (2, [(.t 4)], gc100) := by kernel_rfl
def gc129 : MC := (.seq (.reg [⟨(.some 4), (.mv (.c (.int .u64 0))), .none⟩, ⟨(.some 5), (.mv (.c (.int .u64 0))), .none⟩]) (.seq (.cond (.c (.bool .false)) (.seq (.reg [⟨(.some 11), (.mv (.t 0)), .none⟩, ⟨(.some 12), (.conv .u32 (.t 11)), .none⟩, ⟨(.some 13), (.mv (.t 1)), .none⟩, ⟨(.some 14), (.conv .u32 (.t 13)), .none⟩, ⟨(.some 15), (.call (.c (.fn 136 [] [])) [(.t 12), (.t 14)]), .none⟩, ⟨(.some 10), (.mv (.t 15)), .none⟩, ⟨(.some 16), (.ext (.t 10) 0), .none⟩, ⟨(.some 17), (.ext (.t 10) 1), .none⟩, ⟨(.some 6), (.mv (.t 16)), .none⟩, ⟨(.some 7), (.mv (.t 17)), .none⟩]) (.seq (.reg [⟨(.some 18), (.mv (.t 6)), .none⟩, ⟨(.some 19), (.conv .u64 (.t 18)), .none⟩, ⟨(.some 20), (.mv (.t 7)), .none⟩, ⟨(.some 21), (.conv .u64 (.t 20)), .none⟩, ⟨(.some 4), (.mv (.t 19)), .none⟩, ⟨(.some 5), (.mv (.t 21)), .none⟩]) .ret)) .skip) (.seq (.reg [⟨(.some 23), (.mv (.t 0)), .none⟩, ⟨(.some 24), (.mv (.t 1)), .none⟩, ⟨(.some 25), (.call (.c (.fn 137 [] [])) [(.t 23), (.t 24)]), .none⟩, ⟨(.some 22), (.mv (.t 25)), .none⟩, ⟨(.some 26), (.ext (.t 22) 0), .none⟩, ⟨(.some 27), (.ext (.t 22) 1), .none⟩, ⟨(.some 8), (.mv (.t 26)), .none⟩, ⟨(.some 9), (.mv (.t 27)), .none⟩]) (.seq (.reg [⟨(.some 28), (.mv (.t 8)), .none⟩, ⟨(.some 29), (.mv (.t 9)), .none⟩, ⟨(.some 4), (.mv (.t 28)), .none⟩, ⟨(.some 5), (.mv (.t 29)), .none⟩]) .ret))))
theorem nc129 : nc Try.prog 129 = some (2, [(.t 4), (.t 5)], gc129) := by kernel_rfl
def gc137 : MC := (.seq (.reg [⟨(.some 4), (.mv (.c (.int .u64 0))), .none⟩, ⟨(.some 5), (.mv (.c (.int .u64 0))), .none⟩]) (.seq (.reg [⟨(.some 14), (.mv (.t 0)), .none⟩, ⟨(.some 15), (.bin .and (.t 14) (.c (.int .u64 4294967295))), .none⟩, ⟨(.some 6), (.mv (.t 15)), .none⟩]) (.seq (.reg [⟨(.some 16), (.mv (.t 0)), .none⟩, ⟨(.some 17), (.bin .shr (.t 16) (.c (.int .u64 32))), .none⟩, ⟨(.some 7), (.mv (.t 17)), .none⟩]) (.seq (.reg [⟨(.some 18), (.mv (.t 1)), .none⟩, ⟨(.some 19), (.bin .and (.t 18) (.c (.int .u64 4294967295))), .none⟩, ⟨(.some 8), (.mv (.t 19)), .none⟩]) (.seq (.reg [⟨(.some 20), (.mv (.t 1)), .none⟩, ⟨(.some 21), (.bin .shr (.t 20) (.c (.int .u64 32))), .none⟩, ⟨(.some 9), (.mv (.t 21)), .none⟩]) (.seq (.reg [⟨(.some 22), (.mv (.t 6)), .none⟩, ⟨(.some 23), (.mv (.t 8)), .none⟩, ⟨(.some 24), (.bin .mul (.t 22) (.t 23)), .none⟩, ⟨(.some 10), (.mv (.t 24)), .none⟩]) (.seq (.reg [⟨(.some 25), (.mv (.t 7)), .none⟩, ⟨(.some 26), (.mv (.t 8)), .none⟩, ⟨(.some 27), (.bin .mul (.t 25) (.t 26)), .none⟩, ⟨(.some 28), (.mv (.t 10)), .none⟩, ⟨(.some 29), (.bin .shr (.t 28) (.c (.int .u64 32))), .none⟩, ⟨(.some 30), (.bin .add (.t 27) (.t 29)), .none⟩, ⟨(.some 11), (.mv (.t 30)), .none⟩]) (.seq (.reg [⟨(.some 31), (.mv (.t 11)), .none⟩, ⟨(.some 32), (.bin .and (.t 31) (.c (.int .u64 4294967295))), .none⟩, ⟨(.some 12), (.mv (.t 32)), .none⟩]) (.seq (.reg [⟨(.some 33), (.mv (.t 11)), .none⟩, ⟨(.some 34), (.bin .shr (.t 33) (.c (.int .u64 32))), .none⟩, ⟨(.some 13), (.mv (.t 34)), .none⟩]) (.seq (.reg [⟨(.some 35), (.mv (.t 12)), .none⟩, ⟨(.some 36), (.mv (.t 6)), .none⟩, ⟨(.some 37), (.mv (.t 9)), .none⟩, ⟨(.some 38), (.bin .mul (.t 36) (.t 37)), .none⟩, ⟨(.some 39), (.bin .add (.t 35) (.t 38)), .none⟩, ⟨(.some 12), (.mv (.t 39)), .none⟩]) (.seq (.reg [⟨(.some 40), (.mv (.t 7)), .none⟩, ⟨(.some 41), (.mv (.t 9)), .none⟩, ⟨(.some 42), (.bin .mul (.t 40) (.t 41)), .none⟩, ⟨(.some 43), (.mv (.t 13)), .none⟩, ⟨(.some 44), (.bin .add (.t 42) (.t 43)), .none⟩, ⟨(.some 45), (.mv (.t 12)), .none⟩, ⟨(.some 46), (.bin .shr (.t 45) (.c (.int .u64 32))), .none⟩, ⟨(.some 47), (.bin .add (.t 44) (.t 46)), .none⟩, ⟨(.some 4), (.mv (.t 47)), .none⟩]) (.seq (.reg [⟨(.some 48), (.mv (.t 0)), .none⟩, ⟨(.some 49), (.mv (.t 1)), .none⟩, ⟨(.some 50), (.bin .mul (.t 48) (.t 49)), .none⟩, ⟨(.some 5), (.mv (.t 50)), .none⟩]) .ret))))))))))))
theorem nc137 : nc Try.prog 137 = some (2, [(.t 4), (.t 5)], gc137) := by kernel_rfl
end Go.Proofs.Ytpojdgeginigjaa
/- Repeat, Forward: the walks. -/
set_option linter.unusedSimpArgs false
set_option linter.unusedVariables false
namespace Go.Proofs.Ytpojdgeginigjaa
open Go Go.Ar
set_option maxRecDepth 100000

theorem and_mask {n : Nat} (hn : n < 2 ^ 32) : binop .and (.int .u64 n) (.int .u64 4294967295) = some (.int .u64 n) := by
  have e : (BitVec.ofInt 64 (n : Int) &&& BitVec.ofInt 64 4294967295).toNat = n := by
    rw [BitVec.toNat_and]
    have h1 : (BitVec.ofInt 64 (n : Int)).toNat = n := by rw [BitVec.toNat_ofInt]; omega
    have h2 : (BitVec.ofInt 64 4294967295).toNat = 2 ^ 32 - 1 := by decide
    rw [h1, h2, Nat.and_two_pow_sub_one_eq_mod]
    exact Nat.mod_eq_of_lt hn
  have e2 : IntKind.u64.wrap ((BitVec.ofInt 64 (n : Int) &&& BitVec.ofInt 64 4294967295).toNat : Int) = n := by
    rw [e]; simp [IntKind.wrap, IntKind.bits, IntKind.signed]; omega
  simp only [binop, if_true]
  exact congrArg (fun x => some (V.int .u64 x)) e2
theorem mul64_ok {n : Nat} (hn : n < 2 ^ 32) (H : Heap) : callL E (.f 137) [.int .u64 1, .int .u64 n] H = some (.tup [.int .u64 0, .int .u64 n], H) := by
  have key : ∃ v H', callL E (.f 137) [.int .u64 1, .int .u64 n] H = some (v, H') ∧ v = .tup [.int .u64 0, .int .u64 n] ∧ H' = H := by
    refine call_E rfl nc137 rfl ?_
    unfold gc137
    have b1 : binop .and (.int .u64 1) (.int .u64 4294967295) = some (.int .u64 1) := by rfl
    have b2 : binop .shr (.int .u64 1) (.int .u64 32) = some (.int .u64 0) := by rfl
    have b3 := and_mask hn
    have b4 : binop .shr (.int .u64 n) (.int .u64 32) = some (.int .u64 0) := by
      have : (n : Int).fdiv (2 ^ 32) = 0 := by rw [Int.fdiv_eq_ediv_of_nonneg _ (by omega)]; omega
      show some (V.int .u64 ((n : Int).fdiv (2 ^ 32))) = _
      rw [this]
    have b5 : binop .mul (.int .u64 1) (.int .u64 n) = some (.int .u64 n) := by
      have : IntKind.u64.wrap (1 * (n : Int)) = n := by simp [IntKind.wrap, IntKind.bits, IntKind.signed]; omega
      simp only [binop, if_true, this]
    have b6 : binop .mul (.int .u64 0) (.int .u64 n) = some (.int .u64 0) := by
      have : IntKind.u64.wrap (0 * (n : Int)) = 0 := by simp [IntKind.wrap, IntKind.bits, IntKind.signed]
      simp only [binop, if_true, this]
    have b7 : binop .add (.int .u64 0) (.int .u64 0) = some (.int .u64 0) := by rfl
    have b8 : binop .and (.int .u64 0) (.int .u64 4294967295) = some (.int .u64 0) := by rfl
    have b9 : binop .shr (.int .u64 0) (.int .u64 32) = some (.int .u64 0) := by rfl
    have b10 : binop .mul (.int .u64 1) (.int .u64 0) = some (.int .u64 0) := by rfl
    have b11 : binop .mul (.int .u64 0) (.int .u64 0) = some (.int .u64 0) := by rfl
    repeat refine wa_sr ⟨_, by simp -implicitDefEqProofs [-binop, b1, b2, b3, b4, b5, b6, b7, b8, b9, b10, b11]; rfl, ?_⟩
    have z0 : IntKind.u64.wrap 0 = 0 := by decide
    have zn : IntKind.u64.wrap (n : Int) = n := by simp [IntKind.wrap, IntKind.bits, IntKind.signed]; omega
    exact wa_ret ⟨by simp, _, by simp; rfl, by simp [pack, z0, zn], rfl⟩
  obtain ⟨v, H', h, rfl, rfl⟩ := key
  exact h
theorem mul_ok {n : Nat} (hn : n < 2 ^ 32) (H : Heap) : callL E (.f 129) [.int .u64 1, .int .u64 n] H = some (.tup [.int .u64 0, .int .u64 n], H) := by
  have key : ∃ v H', callL E (.f 129) [.int .u64 1, .int .u64 n] H = some (v, H') ∧ v = .tup [.int .u64 0, .int .u64 n] ∧ H' = H := by
    refine call_E rfl nc129 rfl ?_
    unfold gc129
    refine wa_sr ⟨_, by simp; rfl, ?_⟩
    refine wa_if (t := false) (by simp) (fun h => by cases h) (fun _ => ?_)
    refine wa_sr ⟨_, by simp -implicitDefEqProofs [mul64_ok hn]; rfl, ?_⟩
    refine wa_sr ⟨_, by simp; rfl, ?_⟩
    exact wa_ret ⟨by simp, _, by simp; rfl, rfl, rfl⟩
  obtain ⟨v, H', h, rfl, rfl⟩ := key
  exact h
theorem wrc_rep {n d e : Nat} {g : Nat → V} {v : V} (h : d + e ≤ n) : wrc (tb n g) d (List.replicate e v) = tb n fun j => if d ≤ j ∧ j < d + e then v else g j := by
  refine List.ext_getElem? fun j => ?_
  rw [getElem?_wrc _ _ _ _ (by simp; omega)]
  by_cases hj : j < n
  · have r1 := tb_get (g := fun j => if d ≤ j ∧ j < d + e then v else g j) hj
    have r2 := tb_get (g := g) hj
    rw [r1, r2]
    by_cases h1 : d ≤ j ∧ j < d + e
    · rw [if_pos (by simpa using h1), if_pos h1]
      rw [List.getElem?_replicate, if_pos (by omega)]
    · rw [if_neg (by simpa using h1), if_neg h1]
  · rw [if_neg (by simp; omega), List.getElem?_eq_none (by simp; omega), List.getElem?_eq_none (by simp; omega)]

set_option maxHeartbeats 2000000 in
theorem repeat_ok {x : V} {v : Int} {n : Nat} {H : Heap} (h : TB H x 1 fun _ => .int .i64 v) (hn : n ≤ 2 ^ 20) : callL E (.f 100) [x, .int .i64 n] H = some (.sl H.length 0 n n, H ++ [rI n fun _ => v]) := by
  have key : ∃ w H', callL E (.f 100) [x, .int .i64 n] H = some (w, H') ∧ w = .sl H.length 0 n n ∧ H' = H ++ [rI n fun _ => v] := by
    refine call_E rfl nc100 rfl ?_
    unfold gc100
    have h0 : ¬ ((n : Int) < 0) := by omega
    have w1 : IntKind.u64.wrap 1 = 1 := by decide
    have w2 : IntKind.u64.wrap (n : Int) = n := by simp [IntKind.wrap, IntKind.bits, IntKind.signed]; omega
    have w3 : IntKind.i64.wrap (n : Int) = n := w64 (by omega) (by omega)
    have h1 : ¬ ((9223372036854775807 : Int) < n) := by omega
    have hlim : (n : Int) ≤ (lim : Nat) := by unfold lim; omega
    have hp2 : (n : Int) * 8 ≤ 1099511627776 := by omega
    refine wa_sr ⟨_, by simp; rfl, ?_⟩
    refine wa_sr ⟨_, by simp -implicitDefEqProofs [h0]; rfl, ?_⟩
    refine wa_if (t := false) (by simp) (fun h => by cases h) (fun _ => ?_)
    refine wa_sr ⟨_, by simp -implicitDefEqProofs [h.len, w1, w2, mul_ok (show n < 2 ^ 32 by omega)]; rfl, ?_⟩
    refine wa_sr ⟨_, by simp -implicitDefEqProofs [h1]; rfl, ?_⟩
    refine wa_if (t := false) (by simp) (fun h => by cases h) (fun _ => ?_)
    refine wa_sr ⟨_, by simp -implicitDefEqProofs [w3, hlim, hp2]; rfl, ?_⟩
    have hc := (h.app [.cells (tb n fun _ => .int .i64 0) .ex])
    have hc2 : cellsOf (H ++ [.cells (tb n fun _ => .int .i64 0) .ex]) 1 x = some [.int .i64 v] := hc.cells
    have hmn : min n 1 = if n = 0 then 0 else 1 := by split <;> omega
    refine wa_cut (fun s => ∃ d : Nat, (d = n ∨ (1 ≤ d ∧ d ≤ n)) ∧ s.H = H ++ [.cells (tb n fun j => .int .i64 (if j < d then v else 0)) .ex] ∧ Rg s.τ [(7, .sl H.length 0 n n), (8, .int .i64 d)]) ?_ ?_
    · by_cases hn0 : n = 0
      · subst hn0
        refine wa_regs ⟨_, by simp -implicitDefEqProofs [h.len, hc2]; rfl, 0, .inl rfl, ?_, by simp [Rg]; try omega⟩
        simp [tb]
      · have hn1 : 1 ≤ n := by omega
        have hm : min n 1 = 1 := by omega
        refine wa_regs ⟨_, by simp -implicitDefEqProofs [h.len, hc2, hm, hn1]; rfl, 1, .inr ⟨Nat.le_refl _, hn1⟩, ?_, by simp [Rg]; omega⟩
        exact congrArg (fun c => H ++ [Blk.cells c Ar.Mode.ex]) (tb_congr fun j _ => by by_cases e : j = 0 <;> simp [e])
    · rintro ⟨τ, H'⟩ ⟨d, hd, hH', t7, t8, -⟩
      dsimp only at hH' t7 t8
      subst hH'
      refine wa_cut (fun s => s.H = H ++ [rI n fun _ => v] ∧ s.τ 7 = .sl H.length 0 n n) ?_ ?_
      · refine wa_wh0 (fun q s => ∃ d : Nat, q = n - d ∧ (d = n ∨ (1 ≤ d ∧ d ≤ n)) ∧ s.H = H ++ [.cells (tb n fun j => .int .i64 (if j < d then v else 0)) .ex] ∧ Rg s.τ [(7, .sl H.length 0 n n), (8, .int .i64 d)]) (n - d) ⟨d, rfl, hd, rfl, by simp [Rg, t7, t8]⟩ ?_
        clear t7 t8 τ hd d
        rintro q ⟨τ, _⟩ ⟨d, rfl, hd, rfl, t7, t8, -⟩
        dsimp only at t7 t8
        refine ⟨_, decide (d < n), by simp [t7, t8]; rfl, by simp, fun ht => ?_, fun ht => ?_⟩
        · have hlt : d < n := by simpa using ht
          have hd1 : 1 ≤ d := by omega
          have hdn : ¬ (n = d) := by omega
          have hdn2 : ¬ ((d : Int) = n) := by omega
          have hle : d ≤ n := by omega
          have hleI : (d : Int) ≤ n := by omega
          have htk : ((tb n fun j => V.int .i64 (if j < d then v else 0)).take d).take (min (n - d) d) = List.replicate (min (n - d) d) (.int .i64 v) := by
            refine List.ext_getElem? fun j => ?_
            rw [List.take_take, List.getElem?_take, List.getElem?_replicate]
            have e : min (min (n - d) d) d = min (n - d) d := by omega
            rw [e]
            by_cases hj : j < min (n - d) d
            · rw [if_pos hj, if_pos hj, tb_get (by omega), if_pos (by omega)]
            · rw [if_neg hj, if_neg hj]
          have hwr : wr (H ++ [.cells (tb n fun j => .int .i64 (if j < d then v else 0)) .ex]) H.length d (((tb n fun j => V.int .i64 (if j < d then v else 0)).take d).take (min (n - d) d)) = some (H ++ [.cells (tb n fun j => .int .i64 (if j < d + min (n - d) d then v else 0)) .ex]) := by
            rw [htk, wr_app0, wr_c0, if_neg (by simp [Ar.Mode.wr]), if_pos (by simp; omega), if_pos (by rw [List.all_eq_true]; intro y hy; rw [List.mem_replicate] at hy; rw [hy.2]; rfl), wrc_rep (by omega)]
            simp only [Option.map_some]
            congr 4
            exact tb_congr fun j _ => by
              by_cases h1 : j < d
              · rw [if_neg (by omega), if_pos h1, if_pos (by omega)]
              · by_cases h2 : j < d + min (n - d) d
                · rw [if_pos (by omega), if_pos h2]
                · rw [if_neg (by omega), if_neg h1, if_neg h2]
          have hcel : cellsOf (H ++ [.cells (tb n fun j => .int .i64 (if j < d then v else 0)) .ex]) 1 (.sl H.length 0 d n) = some ((tb n fun j => V.int .i64 (if j < d then v else 0)).take d) := by
            simp [cellsOf, hle]
          have hs1 : slcv (H ++ [.cells (tb n fun j => .int .i64 (if j < d then v else 0)) .ex]) 1 (.sl H.length 0 n n) (some (.int .i64 d)) none = some (.sl H.length d (n - d) (n - d)) := by
            simp [slcv, hiOf, loOf, hleI, getElem?_app0, hdn2, hle]
          have hs2 : slcv (H ++ [.cells (tb n fun j => .int .i64 (if j < d then v else 0)) .ex]) 1 (.sl H.length 0 n n) none (some (.int .i64 d)) = some (.sl H.length 0 d n) := by
            have hn0 : ¬ (0 = (n : Int)) := by omega
            simp [slcv, hiOf, loOf, hleI, getElem?_app0, hn0, hle]
          have hwd : IntKind.i64.wrap ((d : Int) + ((min (n - d) d : Nat) : Int)) = ((d + min (n - d) d : Nat) : Int) := by rw [w64 (by omega) (by omega)]; omega
          have hen : d + min (n - d) d ≤ n := by omega
          have he1 : 1 ≤ min (n - d) d := by omega
          have hcp : ∀ (call : CallF) (τ : Nat → V), τ 41 = .sl H.length d (n - d) (n - d) → τ 44 = .sl H.length 0 d n → aop call τ (H ++ [.cells (tb n fun j => .int .i64 (if j < d then v else 0)) .ex]) (.copy 1 (.t 41) (.t 44)) = some (.int .i64 ((min (n - d) d : Nat) : Int), H ++ [.cells (tb n fun j => .int .i64 (if j < d + min (n - d) d then v else 0)) .ex]) := fun call τ q1 q2 => by
            rw [aop_copy]
            simp only [ev, q1, q2, lenAt_sl, hcel, Nat.mul_one]
            rw [Nat.min_comm d (n - d), hwr]
            have : min (d : Int) ((n - d : Nat) : Int) = ((min (n - d) d : Nat) : Int) := by omega
            rw [this]; rfl
          clear hwr htk
          generalize hmm : min (n - d) d = e at *
          refine wa_drl rfl rfl ⟨_, by simp -implicitDefEqProofs [-aop_copy, t7, t8, hs1, hs2, hcp]; rfl, ?_⟩
          exact ⟨n - (d + e), by omega, d + e, rfl, by omega, rfl, by simp [Rg, t7]; simpa using hwd⟩
        · have hge : ¬ d < n := by simpa using ht
          refine ⟨?_, by simp [t7]⟩
          have : d = n := by omega
          subst this
          simp only [rI]
          congr 3
          exact tb_congr fun j hj => by rw [if_pos hj]
      · rintro ⟨τ, H'⟩ ⟨h', t7⟩
        dsimp only at h' t7
        subst h'
        refine wa_sr ⟨_, by simp [t7]; rfl, ?_⟩
        exact wa_ret ⟨by simp, _, by simp; rfl, rfl, rfl⟩
  obtain ⟨w, H', h1, rfl, rfl⟩ := key
  exact h1
end Go.Proofs.Ytpojdgeginigjaa
/- Forward; CsrRows: the walks. -/
set_option linter.unusedSimpArgs false
set_option linter.unusedVariables false
namespace Go.Proofs.Ytpojdgeginigjaa
open Go Go.Ar
set_option maxRecDepth 100000

def FwdI (c : Csr) (i : Nat) (g : Nat → Int) : Prop := (∀ a : Nat, a < i → c.back a = false → g (c.arc a).toNat = (a : Int)) ∧ ∀ k, (∀ a, a < i → c.back a = false → (c.arc a).toNat ≠ k) → g k = -1
theorem csr_injF {n : Net} {c : Csr} (h : IsCsr n c) : ∀ a b, a < c.m → b < c.m → c.back a = false → c.back b = false → c.arc a = c.arc b → a = b := fun a b ha hb h1 h2 h3 => by
  obtain ⟨k, u, v, b', p⟩ := csr_at h ha
  obtain ⟨k', u', v', b'', q⟩ := csr_at h hb
  have e : k = k' := by have := p.arc; have := q.arc; omega
  subst e
  rcases p.two with ⟨_, _, e1, _⟩ | ⟨e, _⟩
  · rcases q.two with ⟨_, _, e2, _⟩ | ⟨e, _⟩
    · rw [p.ea, q.ea]
      have : u = u' := by omega
      rw [this]
    · rw [e] at h2; cases h2
  · rw [e] at h1; cases h1

set_option maxHeartbeats 4000000 in
theorem forward_ok {c : Csr} {x : CV} {nf : Nat} {H : Heap} (h : CA H c x) (hm : c.m ≤ 2 ^ 20) (hnf : nf ≤ 16384) (hk : ∀ a, a < c.m → ∃ k : Nat, c.arc a = k ∧ k < nf) (hinj : ∀ a b, a < c.m → b < c.m → c.back a = false → c.back b = false → c.arc a = c.arc b → a = b) :
    ∃ g F G, FwdI c c.m g ∧ callL E (.f 62) [CVal c x, .int .i64 nf] H = some (.sl (H ++ F).length 0 nf nf, (H ++ F) ++ (rI nf g :: G)) := by
  have key : ∃ v H', callL E (.f 62) [CVal c x, .int .i64 nf] H = some (v, H') ∧ ∃ g F G, FwdI c c.m g ∧ v = .sl (H ++ F).length 0 nf nf ∧ H' = (H ++ F) ++ (rI nf g :: G) := by
    refine call_E rfl nc62 rfl ?_
    unfold gc62
    obtain ⟨f1, g1⟩ := pc_len (c := c) (x := x) (H := H) h.f2.len
    have hcb : CVal c x = .agg [.int .i64 c.N, .int .i64 c.S, .int .i64 c.T, x.x1, x.x2, x.x3, x.x4, x.x5, x.x6] := rfl
    rw [hcb] at g1 ⊢
    have hn0 : ¬ ((nf : Int) < 0) := by omega
    have hn1 : ¬ ((16384 : Int) < nf) := by omega
    refine wa_sr ⟨_, by simp; rfl, ?_⟩
    refine wa_sr ⟨_, by simp -implicitDefEqProofs [hn0, hn1]; rfl, ?_⟩
    refine wa_if (t := false) (by simp) (fun h => by cases h) (fun _ => ?_)
    have hrep := repeat_ok (x := .sl (H.length + 1) 0 1 1) (v := -1) (n := nf) (H := H ++ [cbox c x, .cells [.int .i64 (-1)] .ex]) ⟨rfl, by simp [cellsOf, tb]⟩ (by omega)
    simp only [List.length_append, List.append_assoc, List.cons_append, List.nil_append, List.length_cons, List.length_nil, Nat.zero_add, Nat.reduceAdd] at hrep
    unfold cbox at hrep
    refine wa_sr ⟨_, by simp -implicitDefEqProofs [fillc, hrep]; rfl, ?_⟩
    refine wa_sr ⟨_, by simp -implicitDefEqProofs [g1]; rfl, ?_⟩
    generalize f1 _ = F1
    change WP E _ ⟨_, H ++ (cbox c x :: .cells [.int .i64 (-1)] .ex :: rI nf (fun _ => -1) :: F1)⟩ _
    refine wa_cut (fun s => (∃ g, FwdI c c.m g ∧ s.H = H ++ (cbox c x :: .cells [.int .i64 (-1)] .ex :: rI nf g :: F1)) ∧ s.τ 5 = .sl (H.length + 2) 0 nf nf) ?_ ?_
    · refine wa_for (n := c.m) (fun i (_ : Nat → Int) => [(1, .int .i64 nf), (2, .ptr H.length 0), (5, .sl (H.length + 2) 0 nf nf)]) (fun i g H' => FwdI c i g ∧ H' = H ++ (cbox c x :: .cells [.int .i64 (-1)] .ex :: rI nf g :: F1)) (fun _ => -1)
        (by decide) (fun i hi => w64 (by omega) (by omega)) (by simp) (by simp) (by simp [Rg]) ⟨⟨fun a ha => by omega, fun _ _ => rfl⟩, rfl⟩ (by simp) ?_ ?_
      · rintro i g τ _ hi t19 t18 ⟨t1, t2, t5, -⟩ ⟨hg, rfl⟩
        dsimp only [ev] at *
        obtain ⟨k, hka, hkn⟩ := hk i hi
        obtain ⟨k5, o5, c5, e5, r5⟩ := h.f5.at hi
        obtain ⟨k6, o6, c6, e6, r6⟩ := h.f6.at hi
        rw [hka] at r5
        have hkn2 : k + 1 ≤ nf := hkn
        refine wa_sr ⟨_, by simp [t19]; rfl, ?_⟩
        refine wa_sr ⟨_, by simp -implicitDefEqProofs [t2, t19, cbox, e5, hi, r5]; rfl, ?_⟩
        by_cases hb : c.back i = true
        · rw [hb] at r6
          refine wa_sr ⟨_, by simp -implicitDefEqProofs [t2, t19, cbox, e6, hi, r6]; rfl, ?_⟩
          refine wa_cond (t := false) (by simp) (fun h => by cases h) (fun _ => wa_skip ?_)
          refine ⟨by simp [t19], by simp [t18], g, by simp [Rg, t1, t2, t5], ⟨fun a ha hba => ?_, fun k' hk' => ?_⟩, by simp only [cbox, rI, e5, e6]⟩
          · by_cases e1 : a = i
            · subst e1; rw [hb] at hba; cases hba
            · exact hg.1 a (by omega) hba
          · exact hg.2 k' fun a ha hba => hk' a (by omega) hba
        · have hb' : c.back i = false := by simpa using hb
          rw [hb'] at r6
          have e : ∀ j, (if j = k then V.int .i64 (i : Int) else V.int .i64 (g j)) = V.int .i64 (fupd g k (i : Int) j) := fun j => by unfold fupd; split <;> rfl
          refine wa_sr ⟨_, by simp -implicitDefEqProofs [t1, t2, t19, cbox, e6, hi, r6, hkn]; rfl, ?_⟩
          refine wa_cond (t := true) (by simp) (fun _ => ?_) (fun h => by cases h)
          refine wa_regs ⟨_, by simp -implicitDefEqProofs [t5, t19, cbox, rI, hkn, hkn2, e]; rfl, ?_⟩
          refine ⟨by simp [t19], by simp [t18], fupd g k (i : Int), by simp [Rg, t1, t2, t5], ⟨fun a ha hba => ?_, fun k' hk' => ?_⟩, by simp only [cbox, rI, e5, e6]⟩
          · unfold fupd
            by_cases e1 : a = i
            · subst e1; rw [hka]; simp
            · rw [if_neg fun h5 => e1 (hinj a i (by omega) hi hba hb' (by obtain ⟨k', q1, _⟩ := hk a (by omega); rw [q1] at h5 ⊢; rw [hka]; simp at h5; rw [h5]))]
              exact hg.1 a (by omega) hba
          · unfold fupd
            have := hk' i (by omega) hb'
            rw [hka] at this
            simp at this
            rw [if_neg (fun e => this e.symm)]
            exact hg.2 k' fun a ha hba => hk' a (by omega) hba
      · rintro g τ H' ⟨t1, t2, t5, -⟩ ⟨hg, rfl⟩
        exact ⟨⟨g, hg, rfl⟩, t5⟩
    · rintro ⟨τ, H'⟩ ⟨⟨g, hg, h'⟩, t5⟩
      dsimp only at h' t5
      subst h'
      refine wa_sr ⟨_, by simp -implicitDefEqProofs [t5]; rfl, ?_⟩
      exact wa_ret ⟨by simp, _, by simp; rfl, g, [cbox c x, .cells [.int .i64 (-1)] .ex], F1, hg, by simp [pack], by simp⟩
  obtain ⟨v, H', h1, g, F, G, hg, rfl, rfl⟩ := key
  exact ⟨g, F, G, hg, h1⟩

/-- How many of the first residual arcs are of arc k. -/
def cntA (c : Csr) : Nat → Nat → Nat
  | 0, _ => 0
  | p + 1, k => cntA c p k + if (c.arc p).toNat = k then 1 else 0
theorem cntA_le (c : Csr) (k : Nat) : ∀ p, cntA c p k ≤ p
  | 0 => Nat.le_refl _
  | p + 1 => by have := cntA_le c k p; simp only [cntA]; split <;> omega
theorem cntA_no {c : Csr} {k : Nat} : ∀ p, (∀ a, a < p → (c.arc a).toNat ≠ k) → cntA c p k = 0
  | 0, _ => rfl
  | p + 1, h => by
    simp only [cntA, cntA_no p fun a ha => h a (by omega)]
    rw [if_neg (h p (by omega))]
theorem cntA_two {c : Csr} {k p q : Nat} (hpq : p ≠ q) : ∀ N, (∀ a, a < N → ((c.arc a).toNat = k ↔ a = p ∨ a = q)) → cntA c N k = (if p < N then 1 else 0) + (if q < N then 1 else 0)
  | 0, _ => rfl
  | N + 1, h => by
    simp only [cntA, cntA_two hpq N fun a ha => h a (by omega)]
    have := h N (by omega)
    by_cases e : (c.arc N).toNat = k
    · rw [if_pos e]
      rcases this.1 e with e1 | e1 <;> subst e1 <;> (repeat' split) <;> omega
    · rw [if_neg e]
      have e1 : ¬ N = p := fun e' => e (this.2 (.inl e'))
      have e2 : ¬ N = q := fun e' => e (this.2 (.inr e'))
      (repeat' split) <;> omega
theorem cntA_all {n : Net} {c : Csr} (hI : IsCsr n c) {k : Nat} (hk : k < n.arcs.length) : cntA c c.m k = if n.arcs[k].src = n.arcs[k].dst then 0 else 2 := by
  obtain ⟨s, d, e1, e2, hs, hd⟩ := hI.inn _ (List.getElem_mem hk)
  by_cases hne : s = d
  · rw [if_pos (by omega)]
    refine cntA_no _ fun a ha e => ?_
    obtain ⟨k', u, v, b, h⟩ := csr_at hI ha
    rw [h.arc] at e
    simp only [Int.toNat_natCast] at e
    subst e
    have := h.iu
    rw [inc_iff] at this
    omega
  · rw [if_neg (by omega)]
    obtain ⟨i1, i2⟩ := inc_l e1 e2 hne
    obtain ⟨⟨_, _, _, g1, _⟩, _, _, _, g4, _⟩ := hI.fil k hk hk s d e1 e2 hne
    have l1 : pos n.arcs k s < c.m := by rw [hI.m]; have := pos_lt hk i1; have := fst_mono n.arcs (show s + 1 ≤ c.vs from hs); omega
    have l2 : pos n.arcs k d < c.m := by rw [hI.m]; have := pos_lt hk i2; have := fst_mono n.arcs (show d + 1 ≤ c.vs from hd); omega
    have hpq : pos n.arcs k s ≠ pos n.arcs k d := fun e => hne (pos_inj hk hk i1 i2 e).2
    rw [cntA_two hpq c.m fun a ha => ⟨fun e => ?_, fun e => ?_⟩, if_pos l1, if_pos l2]
    · obtain ⟨k', u, v, b, h⟩ := csr_at hI ha
      rw [h.arc] at e
      simp only [Int.toNat_natCast] at e
      subst e
      have hu := h.iu
      rw [inc_iff] at hu
      have : u = s ∨ u = d := by omega
      rcases this with rfl | rfl
      · exact .inl h.ea
      · exact .inr h.ea
    · rcases e with rfl | rfl
      · rw [g1]; simp
      · rw [g4]; simp
/-- At which vertex a residual arc stands. -/
theorem at_vertex {n : Net} {c : Csr} {a k u v b w : Nat} (h : At n c a k u v b) (h1 : fst n.arcs w ≤ a) (h2 : a < fst n.arcs (w + 1)) : u = w := by
  have p1 := pos_ge n.arcs k u
  have p2 := pos_lt h.hk h.iu
  rw [← h.ea] at p1 p2
  rcases Nat.lt_trichotomy u w with h3 | h3 | h3
  · have := fst_mono n.arcs (show u + 1 ≤ w from h3); omega
  · exact h3
  · have := fst_mono n.arcs (show w + 1 ≤ u from h3); omega

set_option maxHeartbeats 8000000 in
theorem csrrows_law {H : Heap} {n : Net} {a : V} (hin : NetIn H n a) : ∃ v H', callL E (.f 18) [NV n a] H = some (v, H') ∧ v = .bool true := by
  refine call_E rfl nc18 rfl ?_
  unfold gc18
  obtain ⟨hc0, hlen, hN2, hN40, hcap⟩ := some_facts (n := n) (vs := 40) (m := 80) (by omega) (by omega) (by omega) (fun x hx => (hin.arc x hx).2.2)
  obtain ⟨x, H1, HA, s1, s2, gb, hA, hSl, hHp, hxs⟩ := some_pre hin (vs := 40) (ms := 80) (m := 80) rfl (by omega) (by omega) (by omega)
  have hcb := capB_some hcap
  generalize someN n 40 80 = m at *
  obtain ⟨c, xc, G, e1, hC, hI, _⟩ := make_ok hA hc0
  have hcm := csr_m hI
  have hmN := hI.vs
  have hvs : c.vs ≤ 40 := by omega
  unfold NV nbox at s1
  unfold NV at e1 ⊢
  have hl : lenOf a = some n.arcs.length := Rw.len hin.al
  refine wa_sr ⟨_, by simp [len_cells hl]; rfl, ?_⟩
  refine wa_sr ⟨_, by simp -implicitDefEqProofs [s1, s2, hxs]; rfl, ?_⟩
  have b4 := rdn_all (X := []) (n := 4) gb rfl
  rw [List.append_nil] at b4
  unfold CVal at e1
  have hA := hA.app G
  have gb := get_pre (X := G) gb
  generalize HA ++ G = HZ at *
  refine wa_sr ⟨_, by simp -implicitDefEqProofs [b4, e1, hC.s1, hC.s2, hC.s3, hC.s4, hC.s5, hC.s6]; rfl, ?_⟩
  have hA := hA.app [cbox c xc]
  have gb := get_pre (X := [cbox c xc]) gb
  have hC := hC.app [cbox c xc]
  have gc : (HZ ++ [cbox c xc])[HZ.length]? = some (cbox c xc) := by simp
  refine wa_rg [(1, .ptr H.length 0), (3, .ptr HZ.length 0), (4, .int .i64 0)] (by simp [Rg]) ?_
  change ∀ τ', Rg τ' _ → WP E _ ⟨τ', HZ ++ [cbox c xc]⟩ _
  generalize HZ ++ [cbox c xc] = HB at *
  generalize HZ.length = k3 at *
  generalize H.length = k1 at *
  clear e1 s1 s2 b4
  rintro τ ⟨t1, t3, t4, -⟩
  dsimp only at t1 t3 t4
  obtain ⟨f2, g2⟩ := (pc_len (c := c) (x := xc) (H := prot [] HB) hC.f2.len).pc0
  have g2e := g2 []
  rw [List.append_nil, List.nil_append] at g2e
  have hcv : CVal c xc = .agg [.int .i64 c.N, .int .i64 c.S, .int .i64 c.T, xc.x1, xc.x2, xc.x3, xc.x4, xc.x5, xc.x6] := rfl
  rw [hcv] at g2 g2e
  have c9 : ∀ X, rdn (HB ++ X) k3 0 9 = some [.int .i64 c.N, .int .i64 c.S, .int .i64 c.T, xc.x1, xc.x2, xc.x3, xc.x4, xc.x5, xc.x6] := fun X => rdn_all gc rfl
  have cr : ∀ X o, rd (HB ++ X) k3 o = [V.int .i64 c.N, .int .i64 c.S, .int .i64 c.T, xc.x1, xc.x2, xc.x3, xc.x4, xc.x5, xc.x6][o]? := fun X o => rd_pre gc
  have br : ∀ X o, rd (HB ++ X) k1 o = [V.int .i64 m.N, .int .i64 m.S, .int .i64 m.T, x][o]? := fun X o => rd_pre gb
  have c9e := c9 []
  have cre := cr []
  have bre := br []
  rw [List.append_nil] at c9e
  simp only [List.append_nil] at cre bre
  rw [hmN] at br bre
  obtain ⟨q1, o1, c1, e1, r1⟩ := hC.f1.at (show 0 < c.vs + 1 by omega)
  obtain ⟨q1', o1', c1', e1', r1'⟩ := hC.f1.at (show c.vs < c.vs + 1 by omega)
  rw [e1] at e1'
  cases e1'
  have r1e := r1 []
  have r1e' := r1' []
  rw [List.append_nil] at r1e r1e'
  rw [hI.fst] at r1e r1e'
  rw [← hI.m] at r1e'
  have hw1 : IntKind.i64.wrap ((c.vs : Int) + 1) = (c.vs : Int) + 1 := w64 (by omega) (by omega)
  have hv1 : (c.vs : Int) < (c.vs : Int) + 1 := by omega
  have hv0 : (0 : Int) < (c.vs : Int) + 1 := by omega
  have hf0 : (fst m.arcs 0 : Int) = 0 := rfl
  rw [hf0, Nat.add_zero] at r1e
  have hl1 : lenOf (.sl q1 o1 (c.vs + 1) c1) = some (c.vs + 1) := rfl
  have g2e' := g2e
  rw [e1] at g2e' 
  refine wa_seq (wa_dreg (s' := _) (by
    simp -implicitDefEqProofs [dinsL, dins, t4, t3, t1, cre, bre, c9e, e1, g2e', hw1, hv1, hv0, r1e, r1e']
    rfl) (by simp) ?_)
  refine wa_if (t := false) (by simp) (fun h => by cases h) (fun _ => ?_)
  refine wa_rh [(1, .ptr k1 0), (3, .ptr k3 0)] HB (by simp [Rg, t1, t3]) ⟨_, rfl⟩ ?_
  clear t1 t3 t4 τ g2 g2e g2e' c9 cr br c9e cre bre r1 r1' r1e r1e' hl1
  rintro τ G0 ⟨t1, t3, -⟩
  dsimp only at t1 t3
  have hA := hA.app G0
  have gb := get_pre (X := G0) gb
  have hC := hC.app G0
  have gc := get_pre (X := G0) gc
  generalize HB ++ G0 = HC at *
  have cr : ∀ X o, rd (HC ++ X) k3 o = [V.int .i64 c.N, .int .i64 c.S, .int .i64 c.T, xc.x1, xc.x2, xc.x3, xc.x4, xc.x5, xc.x6][o]? := fun X o => rd_pre gc
  have br : ∀ X o, rd (HC ++ X) k1 o = [V.int .i64 (c.vs : Int), .int .i64 m.S, .int .i64 m.T, x][o]? := fun X o => by rw [← hmN]; exact rd_pre gb
  have c9 : ∀ X, rdn (HC ++ X) k3 0 9 = some [.int .i64 c.N, .int .i64 c.S, .int .i64 c.T, xc.x1, xc.x2, xc.x3, xc.x4, xc.x5, xc.x6] := fun X => rdn_all gc rfl
  have bre := br []
  simp only [List.append_nil] at bre
  have hxl : lenOf x = some m.arcs.length := Rw.len hA
  have hlim : (m.arcs.length : Int) ≤ (lim : Nat) := by unfold lim; omega
  have hp2 : (m.arcs.length : Int) * 8 ≤ 1099511627776 := by omega
  refine wa_sr ⟨_, by simp -implicitDefEqProofs [t1, bre, hxl, hlim, hp2]; rfl, ?_⟩
  refine wa_sr ⟨_, by simp -implicitDefEqProofs [t1, br]; rfl, ?_⟩
  have h00 : (tb m.arcs.length fun _ => V.int .i64 0) = tb m.arcs.length fun j => V.int .i64 (cntA c (fst m.arcs 0) j : Nat) := tb_congr fun j _ => rfl
  refine wa_cut (fun s => (∃ G, s.H = HC ++ (rI m.arcs.length (fun j => (cntA c c.m j : Nat)) :: G)) ∧ Rg s.τ [(1, .ptr k1 0), (3, .ptr k3 0), (5, .sl HC.length 0 m.arcs.length m.arcs.length)]) ?_ ?_
  · refine wa_for (n := c.vs) (fun v (_ : Heap) => [(1, .ptr k1 0), (3, .ptr k3 0), (5, .sl HC.length 0 m.arcs.length m.arcs.length)]) (fun v G H' => H' = HC ++ (rI m.arcs.length (fun j => (cntA c (fst m.arcs v) j : Nat)) :: G)) []
      (by decide) (fun i hi => w64 (by omega) (by omega)) (by simp) (by simp) (by simp [Rg, t1, t3]) (by simp only [rI, ← h00]) (by simp) ?_ ?_
    · clear t1 t3 τ
      rintro v G τ _ hv t56 t55 ⟨t1, t3, t5, -⟩ rfl
      dsimp only [ev] at *
      obtain ⟨q1, o1, c1, e1, r1⟩ := hC.f1.at (show v < c.vs + 1 by omega)
      obtain ⟨q1', o1', c1', e1', r1'⟩ := hC.f1.at (show v + 1 < c.vs + 1 by omega)
      rw [e1] at e1'
      cases e1'
      rw [hI.fst] at r1 r1'
      have hmono := fst_mono m.arcs (show v ≤ v + 1 by omega)
      have hmono2 := fst_mono m.arcs (show v + 1 ≤ c.vs by omega)
      rw [← hI.m] at hmono2
      have wv : IntKind.i64.wrap ((v : Int) + 1) = (v : Int) + 1 := w64 (by omega) (by omega)
      have pv : (0 : Int) ≤ (v : Int) + 1 := by omega
      have uv : (v : Int) + 1 < (c.vs : Int) + 1 := by omega
      have uv2 : (v : Int) < (c.vs : Int) + 1 := by omega
      have tv : ((v : Int) + 1).toNat = v + 1 := by omega
      have hng : ¬ (fst m.arcs (v + 1) < fst m.arcs v) := by omega
      refine wa_sr ⟨_, by simp [t56]; rfl, ?_⟩
      refine wa_dr rfl rfl ⟨_, by simp -implicitDefEqProofs [t3, t56, cr, e1, wv, pv, uv, uv2, tv, r1, r1', hng]; rfl, ?_⟩
      refine wa_if (t := false) (by simp [hng]) (fun h => by cases h) (fun _ => ?_)
      refine wa_sr ⟨_, by simp -implicitDefEqProofs [t3, t56, cr, e1, uv2, r1]; rfl, ?_⟩
      refine wa_while (fun q s => ∃ (p : Nat) (G : Heap), q = fst m.arcs (v + 1) - p ∧ fst m.arcs v ≤ p ∧ p ≤ fst m.arcs (v + 1) ∧ s.H = HC ++ (rI m.arcs.length (fun j => (cntA c p j : Nat)) :: G) ∧ Rg s.τ [(1, .ptr k1 0), (3, .ptr k3 0), (5, .sl HC.length 0 m.arcs.length m.arcs.length), (56, .int .i64 v), (55, .int .i64 c.vs), (6, .int .i64 v), (7, .int .i64 p)]) (fst m.arcs (v + 1) - fst m.arcs v) ⟨fst m.arcs v, G, rfl, Nat.le_refl _, hmono, rfl, by simp [Rg, t1, t3, t5, t56, t55]⟩ ?_
      clear t1 t3 t5 t56 t55 τ G
      rintro q ⟨τ, _⟩ ⟨p, G, rfl, hp1, hp2', rfl, t1, t3, t5, t56, t55, t6, t7, -⟩
      dsimp only at t1 t3 t5 t56 t55 t6 t7
      refine ⟨_, decide (p < fst m.arcs (v + 1)), by simp -implicitDefEqProofs [t3, t6, t7, cr, e1, wv, pv, uv, tv, r1']; rfl, by simp, fun ht => ?_, fun ht => ?_⟩
      · have hlt : p < fst m.arcs (v + 1) := by simpa using ht
        have hpm : p < c.m := by omega
        obtain ⟨k, u, w, b, h⟩ := csr_at hI hpm
        obtain rfl := at_vertex h hp1 hlt
        have hkl := h.hk
        obtain ⟨ft, gt⟩ := tail_at hI (hC.app (rI m.arcs.length (fun j => (cntA c p j : Nat)) :: G)) h hpm (by omega) (by omega)
        have gte := gt []
        rw [List.append_nil, List.nil_append, hcv] at gte
        refine wa_sr ⟨_, by simp -implicitDefEqProofs [t3, t7, c9, gte]; rfl, ?_⟩
        refine wa_rg [(1, .ptr k1 0), (3, .ptr k3 0), (5, .sl HC.length 0 m.arcs.length m.arcs.length), (56, .int .i64 u), (55, .int .i64 c.vs), (6, .int .i64 u), (7, .int .i64 p), (8, .int .i64 u), (9, .bool true)] (by simp [Rg, t1, t3, t5, t56, t55, t6, t7]) ?_
        have hasc : HC ++ rI m.arcs.length (fun j => (cntA c p j : Nat)) :: G ++ ft [] = HC ++ (rI m.arcs.length (fun j => (cntA c p j : Nat)) :: (G ++ ft [])) := by simp
        clear t1 t3 t5 t56 t55 t6 t7 gt gte τ ht
        rintro τ ⟨t1, t3, t5, t56, t55, t6, t7, t8, t9, -⟩
        dsimp only at t1 t3 t5 t56 t55 t6 t7 t8 t9
        generalize G ++ ft [] = G' at *
        obtain ⟨q5, o5, c5, e5, r5⟩ := hC.f5.at hpm
        rw [h.arc] at r5
        have hcl := cntA_le c k p
        have wc : IntKind.i64.wrap ((cntA c p k : Int) + 1) = (cntA c p k : Int) + 1 := w64 (by omega) (by omega)
        have hk2 : k + 1 ≤ m.arcs.length := hkl
        have wp : IntKind.i64.wrap ((p : Int) + 1) = (p : Int) + 1 := w64 (by omega) (by omega)
        have hfun : (tb m.arcs.length fun j => if j = k then V.int .i64 ((cntA c p k : Int) + 1) else V.int .i64 (cntA c p j : Nat)) = tb m.arcs.length fun j => V.int .i64 (cntA c (p + 1) j : Nat) := tb_congr fun j _ => by
          simp only [cntA]
          rw [h.arc]
          simp only [Int.toNat_natCast]
          by_cases e : j = k
          · subst e; simp
          · rw [if_neg e, if_neg (fun e' => e e'.symm)]; simp
        refine wa_cut (fun s => s.H = HC ++ (rI m.arcs.length (fun j => (cntA c p j : Nat)) :: G') ∧ Rg s.τ [(1, .ptr k1 0), (3, .ptr k3 0), (5, .sl HC.length 0 m.arcs.length m.arcs.length), (56, .int .i64 u), (55, .int .i64 c.vs), (6, .int .i64 u), (7, .int .i64 p), (121, .bool false)]) ?_ ?_
        · by_cases hgt : fst m.arcs u < p
          · obtain ⟨k', u', w', b', h'⟩ := csr_at hI (show p - 1 < c.m by omega)
            obtain rfl := at_vertex h' (show fst m.arcs u ≤ p - 1 by omega) (by omega)
            obtain ⟨q5', o5', c5', e5', r5'⟩ := hC.f5.at (show p - 1 < c.m by omega)
            rw [e5] at e5'
            cases e5'
            rw [h'.arc] at r5'
            have hkk : k' < k := by
              rcases Nat.lt_or_ge k' k with h5 | h5
              · exact h5
              · have := pos_mono (l := m.arcs) (v := u') h5
                have := h.ea
                have := h'.ea
                omega
            have hkk2 : ¬ (k ≤ k') := by omega
            have wp1 : IntKind.i64.wrap ((p : Int) - 1) = ((p - 1 : Nat) : Int) := by rw [w64 (by omega) (by omega)]; omega
            have hp1m : p - 1 < c.m := by omega
            refine wa_drl rfl rfl ⟨_, by simp -implicitDefEqProofs [t3, t6, t7, t8, t9, cr, e1, uv2, r1, hgt, e5, wp1, hp1m, hpm, r5, r5', hkk2]; rfl, rfl, by simp [Rg, t1, t3, t5, t56, t55, t6, t7]⟩
          · refine wa_drl rfl rfl ⟨_, by simp -implicitDefEqProofs [t3, t6, t7, t8, t9, cr, e1, uv2, r1, hgt]; rfl, rfl, by simp [Rg, t1, t3, t5, t56, t55, t6, t7]⟩
        · clear t1 t3 t5 t56 t55 t6 t7 t8 t9 τ
          rintro ⟨τ, H'⟩ ⟨hH', t1, t3, t5, t56, t55, t6, t7, t121, -⟩
          dsimp only at hH' t1 t3 t5 t56 t55 t6 t7 t121
          subst hH'
          refine wa_if (t := false) (by simp [t121]) (fun h => by cases h) (fun _ => ?_)
          refine wa_regs ⟨_, by simp -implicitDefEqProofs [t3, t5, t7, cr, e5, hpm, r5, rI, hkl, hk2, wc]; rfl, ?_⟩
          refine ⟨_, by simp -implicitDefEqProofs [t7, wp]; rfl, fst m.arcs (u + 1) - (p + 1), by omega, p + 1, G', rfl, by omega, by omega, ?_, by simp [Rg, t1, t3, t5, t56, t55, t6]⟩
          simp only [rI, ← hfun]
      · have hge : ¬ p < fst m.arcs (v + 1) := by simpa using ht
        have : p = fst m.arcs (v + 1) := by omega
        subst this
        exact ⟨by simp [t56], by simp [t55], G, by simp [Rg, t1, t3, t5], rfl⟩
    · rintro G τ H' ⟨t1, t3, t5, -⟩ h'
      rw [← hI.m] at h'
      exact ⟨⟨G, h'⟩, by simp [Rg, t1, t3, t5]⟩
  clear t1 t3 τ
  rintro ⟨τ, H'⟩ ⟨⟨G, hH'⟩, t1, t3, t5, -⟩
  dsimp only at hH' t1 t3 t5
  subst hH'
  -- forward
  have hCm := hC.app (rI m.arcs.length (fun j => (cntA c c.m j : Nat)) :: G)
  obtain ⟨g, F, G2, hg, e1'⟩ := forward_ok (nf := m.arcs.length) hCm (by omega) (by omega) (csr_k hI) (csr_injF hI)
  rw [hcv] at e1'
  simp only [List.append_assoc, List.cons_append] at e1'
  refine wa_sr ⟨_, by simp -implicitDefEqProofs [t1, t3, c9, br, hxl, e1']; rfl, ?_⟩
  have gF : (HC ++ rI m.arcs.length (fun j => (cntA c c.m j : Nat)) :: (G ++ (F ++ rI m.arcs.length g :: G2)))[(HC ++ rI m.arcs.length (fun j => (cntA c c.m j : Nat)) :: (G ++ F)).length]? = some (rI m.arcs.length g) := by
    have : HC ++ rI m.arcs.length (fun j => (cntA c c.m j : Nat)) :: (G ++ (F ++ rI m.arcs.length g :: G2)) = (HC ++ rI m.arcs.length (fun j => (cntA c c.m j : Nat)) :: (G ++ F)) ++ rI m.arcs.length g :: G2 := by simp
    rw [this]; simp
  have gM : (HC ++ rI m.arcs.length (fun j => (cntA c c.m j : Nat)) :: (G ++ (F ++ rI m.arcs.length g :: G2)))[HC.length]? = some (rI m.arcs.length (fun j => (cntA c c.m j : Nat))) := by simp
  have hA := hA.app (rI m.arcs.length (fun j => (cntA c c.m j : Nat)) :: (G ++ (F ++ rI m.arcs.length g :: G2)))
  have hC := hC.app (rI m.arcs.length (fun j => (cntA c c.m j : Nat)) :: (G ++ (F ++ rI m.arcs.length g :: G2)))
  have gb := get_pre (X := rI m.arcs.length (fun j => (cntA c c.m j : Nat)) :: (G ++ (F ++ rI m.arcs.length g :: G2))) gb
  have gc := get_pre (X := rI m.arcs.length (fun j => (cntA c c.m j : Nat)) :: (G ++ (F ++ rI m.arcs.length g :: G2))) gc
  have hkF : (HC ++ rI m.arcs.length (fun j => (cntA c c.m j : Nat)) :: (G ++ F)).length = HC.length + (G.length + F.length + 1) := by simp
  refine wa_rg [(1, .ptr k1 0), (3, .ptr k3 0), (5, .sl HC.length 0 m.arcs.length m.arcs.length), (10, .sl (HC ++ rI m.arcs.length (fun j => (cntA c c.m j : Nat)) :: (G ++ F)).length 0 m.arcs.length m.arcs.length)] (by simp [Rg, t1, t3, t5]; try omega) ?_
  change ∀ τ', Rg τ' _ → WP E _ ⟨τ', HC ++ rI m.arcs.length (fun j => (cntA c c.m j : Nat)) :: (G ++ (F ++ rI m.arcs.length g :: G2))⟩ _
  clear cr br bre c9 e1' t1 t3 t5 τ hkF hCm
  generalize (HC ++ rI m.arcs.length (fun j => (cntA c c.m j : Nat)) :: (G ++ F)).length = kF at *
  generalize HC ++ rI m.arcs.length (fun j => (cntA c c.m j : Nat)) :: (G ++ (F ++ rI m.arcs.length g :: G2)) = HD at *
  generalize HC.length = kM at *
  rintro τ ⟨t1, t3, t5, t10, -⟩
  dsimp only at t1 t3 t5 t10
  have cr : ∀ X o, rd (HD ++ X) k3 o = [V.int .i64 c.N, .int .i64 c.S, .int .i64 c.T, xc.x1, xc.x2, xc.x3, xc.x4, xc.x5, xc.x6][o]? := fun X o => rd_pre gc
  have br : ∀ X o, rd (HD ++ X) k1 o = [V.int .i64 m.N, .int .i64 m.S, .int .i64 m.T, x][o]? := fun X o => rd_pre gb
  have bre := br []
  simp only [List.append_nil] at bre
  refine wa_sr ⟨_, by simp -implicitDefEqProofs [t1, t10, bre, hxl]; rfl, ?_⟩
  refine wa_if (t := false) (by simp) (fun h => by cases h) (fun _ => ?_)
  refine wa_sr ⟨_, by simp -implicitDefEqProofs [t1, bre, hxl]; rfl, ?_⟩
  have mr : ∀ X (j : Nat), j < m.arcs.length → rd (HD ++ X) kM j = some (.int .i64 (cntA c c.m j : Nat)) := fun X j hj => by rw [rd_pre gM]; simp [hj]
  have fr : ∀ X (j : Nat), j < m.arcs.length → rd (HD ++ X) kF j = some (.int .i64 (g j)) := fun X j hj => by rw [rd_pre gF]; simp [hj]
  refine wa_cut (fun s => True) ?_ ?_
  · refine wa_for (n := m.arcs.length) (fun i (_ : Heap) => [(3, .ptr k3 0), (5, .sl kM 0 m.arcs.length m.arcs.length), (10, .sl kF 0 m.arcs.length m.arcs.length), (145, x)]) (fun i G H' => H' = HD ++ G) []
      (by decide) (fun i hi => w64 (by omega) (by omega)) (by simp) (by simp) (by simp [Rg, t3, t5, t10]) (by simp) (by simp) ?_ ?_
    · clear t1 t3 t5 t10 τ
      rintro i G τ _ hi t147 t146 ⟨t3, t5, t10, t145, -⟩ rfl
      dsimp only [ev] at *
      obtain ⟨ka, o, cc, rfl, hka, hr, _⟩ := hA.at hi
      have hcn := cntA_all hI hi
      obtain ⟨s, d, e1, e2, hs, hd⟩ := hI.inn _ (List.getElem_mem hi)
      have hfi := hI.fil i hi hi s d e1 e2
      have hg2 := hg.2 i
      have hlp : ∀ a, a < c.m → (c.arc a).toNat = i → s ≠ d := fun a ha he => by
        obtain ⟨k', u, v, b, h⟩ := csr_at hI ha
        rw [h.arc] at he
        simp only [Int.toNat_natCast] at he
        subst he
        have := h.iu
        rw [inc_iff] at this
        omega
      have hps : s ≠ d → pos m.arcs i s < c.m := fun hne => by
        obtain ⟨i1, i2⟩ := inc_l e1 e2 hne
        rw [hI.m]; have := pos_lt hi i1; have := fst_mono m.arcs (show s + 1 ≤ c.vs from hs); omega
      rw [e1, e2] at hcn
      generalize m.arcs[i] = ar at *
      obtain ⟨sr, ds, cp⟩ := ar
      dsimp only at e1 e2
      subst e1 e2
      simp only [Arc.cells] at hr
      refine wa_sr ⟨_, by simp -implicitDefEqProofs [t145, t147, hi, hr]; rfl, ?_⟩
      refine wa_sr ⟨_, by simp; rfl, ?_⟩
      refine wa_sr ⟨_, by simp -implicitDefEqProofs; rfl, ?_⟩
      by_cases hsd : s = d
      · subst hsd
        rw [if_pos rfl] at hcn
        have hgi : g i = -1 := hg2 fun a ha _ he => hlp a ha he rfl
        have m1 := fun X => mr X i hi
        have f1 := fun X => fr X i hi
        rw [hcn] at m1
        rw [hgi] at f1
        refine wa_if (t := true) (by simp) (fun _ => ?_) (fun h => by cases h)
        refine wa_sr ⟨_, by simp; rfl, ?_⟩
        refine wa_dr rfl rfl ⟨_, by simp -implicitDefEqProofs [t5, t10, t147, hi, m1, f1]; rfl, ?_⟩
        refine wa_cond (t := false) (by simp) (fun h => by cases h) (fun _ => wa_skip ?_)
        exact ⟨by simp [t147], by simp [t146], G ++ [.cells [.int .i64 s, .int .i64 s, .int .i64 cp] .ex], by simp [Rg, t3, t5, t10, t145], by simp⟩
      · have hbs : ((s : Int) == (d : Int)) = false := by simp; omega
        rw [if_neg (by omega)] at hcn
        obtain ⟨⟨p1, p2, p3, p4, p5⟩, _⟩ := hfi hsd
        have hpm := hps hsd
        have hgi : g i = (pos m.arcs i s : Nat) := by
          have := hg.1 _ hpm p5
          rw [p4] at this
          simpa using this
        have m1 := fun X => mr X i hi
        have f1 := fun X => fr X i hi
        rw [hcn] at m1
        rw [hgi] at f1
        obtain ⟨q5, o5, c5, e5, r5⟩ := hC.f5.at hpm
        obtain ⟨q6, o6, c6, e6, r6⟩ := hC.f6.at hpm
        rw [p4] at r5
        rw [p5] at r6
        generalize pos m.arcs i s = p at *
        have hp0 : ¬ ((p : Int) < 0) := by omega
        refine wa_if (t := false) (by simp [hbs]) (fun h => by cases h) (fun _ => ?_)
        refine wa_dr rfl rfl ⟨_, by simp -implicitDefEqProofs [t3, t5, t10, t147, hi, m1, f1, hp0, cr, e5, e6, hpm, r5, r6]; rfl, ?_⟩
        refine wa_cond (t := false) (by simp) (fun h => by cases h) (fun _ => wa_skip ?_)
        exact ⟨by simp [t147], by simp [t146], G ++ [.cells [.int .i64 s, .int .i64 d, .int .i64 cp] .ex], by simp [Rg, t3, t5, t10, t145], by simp⟩
    · rintro G τ H' _ _; trivial
  · rintro ⟨τ, H'⟩ _
    refine wa_sr ⟨_, by simp -implicitDefEqProofs [call_yes (k := 50) rfl]; rfl, ?_⟩
    exact wa_ret ⟨by simp, _, by simp; rfl, rfl⟩
end Go.Proofs.Ytpojdgeginigjaa
