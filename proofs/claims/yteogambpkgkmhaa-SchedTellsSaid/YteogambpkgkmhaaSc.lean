/- The row of workers that is ranged over, and Next. -/
import Derived.Test.YteogambpkgkmhaaSb
set_option linter.unusedSimpArgs false
set_option linter.unusedVariables false
namespace Go.Proofs.Yteogambpkgkmhaa
open Go Go.Ar
set_option maxRecDepth 100000

theorem from1_ok {y b1 b2 q n : Nat} {t : V} {w : Int} (Inv : Nat → Heap → Prop) (Fin : Heap → Prop) {H : Heap} (h0 : Inv 0 H) (hread : ∀ i H, Inv i H → rd H b2 0 = some (.int .i64 w))
    (r1 : rd H b1 0 = some (.ptr q 0)) (r2 : rd H q 2 = some t) (hlen : lenOf t = some n) (hn : 0 < n) (hw : ∀ i : Nat, i < n → IntKind.i64.wrap (w + i) = w + i) (hsz : (n : Int) ≤ 2 ^ 40)
    (step : ∀ i H, i < n → Inv i H → ∃ b H', callL E (.y y) [.int .i64 ((w + i).tmod n)] H = some (.bool b, H') ∧ (b = true → Inv (i + 1) H') ∧ (b = false → Fin H')) :
    ∃ v H', callL E (.f 24) [.yld y, .ptr b1 0, .ptr b2 0] H = some (v, H') ∧ v = .tup [] ∧ (Inv n H' ∨ Fin H') := by
  rw [call_E rfl fc24_ok rfl]
  refine wa_finish ?_
  unfold fc24
  dsimp only
  refine wa_seq (wa_regs ⟨_, by simp [r1, r2, hlen]; rfl, ?_⟩)
  refine wa_seq (wa_regs ⟨_, by simp; rfl, ?_⟩)
  refine wa_block ?_
  refine wa_loop (fun m s => ∃ i, m = n - i ∧ i ≤ n ∧ Inv i s.H ∧ s.τ 0 = .yld y ∧ s.τ 2 = .ptr b2 0 ∧ s.τ 4 = .int .i64 n ∧ s.τ 11 = .int .i64 n ∧ s.τ 12 = .int .i64 i) ?_ n _ ⟨0, rfl, by omega, h0, by simp, by simp, by simp, by simp, by simp⟩
  rintro m ⟨τ, H1⟩ ⟨i, hm, hi, hI, t0, t2, t4, t11, t12⟩
  simp only at hI t0 t2 t4 t11 t12
  by_cases hlt : i < n
  · refine wa_seq (wa_regs ⟨_, by simp [t11, t12]; rfl, ?_⟩)
    refine wa_seq (wa_cond (t := true) (by simp [hlt]) (fun _ => wa_skip ?_) (fun h => by cases h))
    refine wa_seq (wa_block (wa_seq (wa_regs ⟨_, by simp [t12]; rfl, ?_⟩)))
    obtain ⟨b, H2, hc, hb1, hb2⟩ := step i H1 hlt hI
    have hr := hread i H1 hI
    have hn0 : n ≠ 0 := by omega
    refine wa_seq (wa_regs ⟨_, by simp [t0, t2, t4, t12, hr, hw i hlt, hn0, hc]; rfl, ?_⟩)
    cases b
    · refine wa_cond (t := true) (by simp) (fun _ => wa_ret ?_) (fun h => by cases h)
      exact ⟨by simp, _, rfl, rfl, .inr (hb2 rfl)⟩
    · refine wa_cond (t := false) (by simp) (fun h => by cases h) (fun _ => wa_skip ?_)
      have hw1 : IntKind.i64.wrap ((i : Int) + 1) = ((i + 1 : Nat) : Int) := by simp [IntKind.wrap, IntKind.bits, IntKind.signed]; omega
      refine wa_regs ⟨_, by simp [t12]; rfl, ?_⟩
      exact ⟨n - (i + 1), by omega, i + 1, rfl, by omega, hb1 rfl, by simp [t0], by simp [t2], by simp [t4], by simp [t11], by simp [hw1]⟩
  · have hie : i = n := by omega
    subst hie
    refine wa_seq (wa_regs ⟨_, by simp [t11, t12]; rfl, ?_⟩)
    refine wa_seq (wa_cond (t := false) (by simp) (fun h => by cases h) (fun _ => wa_exit ?_))
    exact ⟨by simp, _, rfl, rfl, .inl hI⟩

theorem from_ok {H : Heap} {q : Nat} {w : Int} : callL E (.f 17) [.ptr q 0, .int .i64 w] H = some (.fn 24 [] [.ptr H.length 0, .ptr (H.length + 1) 0], H ++ [.cells [.ptr q 0] .ex] ++ [.cells [.int .i64 w] .ex]) := by
  rw [call_E rfl fc17_ok rfl]
  simp [fc17]

theorem Sc.mono {H H' : Heap} {q kt : Nat} {p : V} {picks : List Int} {last : Int} {told : List Bool} {ended : Int} (h : Sc H q kt p picks last told ended) (e : ∀ k, k < H.length → H'[k]? = H[k]?) (hl : H.length ≤ H'.length) : Sc H' q kt p picks last told ended := by
  have hfr : ∀ k, p.blk? = some k → H'[k]? = H[k]? := fun k hk => e k (h.plt k hk)
  exact ⟨by rw [e q (List.getElem?_eq_some_iff.1 h.hq).1]; exact h.hq, by rw [e kt (List.getElem?_eq_some_iff.1 h.ht).1]; exact h.ht, h.hp.frame hfr, fun hn => (h.hg hn).frame hfr, h.ne, h.pos, h.pq, fun k hk => Nat.lt_of_lt_of_le (h.plt k hk) hl⟩

/-- Whose step it is: the first that is not done, from one on. -/
def firstOf (done : List Bool) (b : Int) (n : Nat) : Option Nat := ((List.range n).map fun i : Nat => ((b + i).tmod n).toNat).find? fun w => !(done.getD w false)
end Go.Proofs.Yteogambpkgkmhaa
