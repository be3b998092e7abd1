/- The script's functions. -/
import Derived.Test.YteogambpkgkmhaaFc
import Derived.Test.YteogambpkgkmhaaAr25
set_option linter.unusedSimpArgs false
set_option linter.unusedVariables false
namespace Go.Proofs.Yteogambpkgkmhaa
open Go Go.Ar
set_option maxRecDepth 100000
noncomputable def E : Env := envY Try.prog 11
theorem call_E {g : Nat} {fc : FC} (hg : (g == 11) = false) (hC : codeOf Try.prog g = some fc) {args : List V} (hl : args.length = fc.nargs) {H : Heap} :
    callL E (.f g) args H = finish fc (execL E fc.body ⟨args0 args, H⟩) := call_Y hg hC hl
theorem call_awake {H : Heap} : callL E (.f 11) [] H = some (.bool true, H) := call_yes

theorem isDone_ok {H : Heap} {d : V} {bs : List Bool} (hb : BL H d bs) (w : Nat) : callL E (.f 19) [d, .int .i64 w] H = some (.bool (bs.getD w false), H) := by
  rw [call_E rfl fc19_ok rfl]
  have h1 := hb.len
  by_cases hw : w < bs.length
  · obtain ⟨k, o, c, rfl, h3⟩ := hb.at hw
    simp [fc19, hw, h3]
  · have h0 : bs.getD w false = false := by simp [hw]
    simp [fc19, hw, h1]

theorem none_ok {H : Heap} {q : Nat} {t : V} {told : List Bool} (h2 : rd H q 2 = some t) (ht : BL H t told) : callL E (.f 16) [.ptr q 0] H = some (.bool (told.length == 0), H) := by
  rw [call_E rfl fc16_ok rfl]
  have h1 := ht.len
  simp [fc16, h2, h1, int_beq0]

theorem left_ok {H : Heap} {q : Nat} {p t : V} {told : List Bool} {picks : List Int} (h0 : rd H q 0 = some p) (h2 : rd H q 2 = some t) (ht : BL H t told) (hp : IL .i64 H p picks) (hn : 0 < told.length) :
    callL E (.f 9) [.ptr q 0] H = some (.int .i64 picks.length, H) := by
  rw [call_E rfl fc9_ok rfl]
  have h1 := ht.len
  have h4 := hp.len
  have h3 : (told.length == 0) = false := by cases told with | nil => simp at hn | cons => rfl
  simp [fc9, h0, h4, none_ok h2 ht, h3, execL_cond]

theorem rounds_ok {H : Heap} {q : Nat} {t : V} {e : Int} {told : List Bool} (h2 : rd H q 2 = some t) (h5 : rd H q 3 = some (.int .i64 e)) (ht : BL H t told) (hn : 0 < told.length) :
    callL E (.f 14) [.ptr q 0] H = some (.int .i64 e, H) := by
  rw [call_E rfl fc14_ok rfl]
  have h3 : (told.length == 0) = false := by cases told with | nil => simp at hn | cons => rfl
  simp [fc14, h5, none_ok h2 ht, h3, execL_cond]

/-- Where to look from on. -/
def beginOf (picks : List Int) (last : Int) (n : Nat) : Int :=
  match picks with
  | [] => (last + 1).tmod n
  | x :: _ => (IntKind.i64.wrap (x.tmod n + n)).tmod n

theorem begin_ok {H : Heap} {q : Nat} {p t : V} {l : Int} {told : List Bool} {picks : List Int} (r0 : rd H q 0 = some p) (r1 : rd H q 1 = some (.int .i64 l)) (r2 : rd H q 2 = some t) (ht : BL H t told) (hp : IL .i64 H p picks) (hn : 0 < told.length)
    (hl : IntKind.i64.wrap (l + 1) = l + 1) :
    callL E (.f 18) [.ptr q 0] H = some (.int .i64 (beginOf picks l told.length), H) := by
  rw [call_E rfl fc18_ok rfl]
  have h1 := ht.len
  have h2 := hp.len
  have h4 : told ≠ [] := by intro e; subst e; simp at hn
  cases picks with
  | nil =>
    simp at h2
    simp [fc18, r0, r1, r2, h1, h2, execL_cond, h4, hl, beginOf]
  | cons x xs =>
    obtain ⟨k, o, c, rfl, h3⟩ := hp.at (n := 0) (by simp)
    simp at h3
    have h7 : 0 < xs.length + 1 := by omega
    have h8 : ((xs.length : Int) + 1 == 0) = false := by simp; omega
    have h9 : (0 : Int) < xs.length + 1 := by omega
    simp [fc18, r0, r1, r2, h3, h1, execL_cond, h4, beginOf, h7, h8, h9]
end Go.Proofs.Yteogambpkgkmhaa
