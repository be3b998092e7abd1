/- Repeat, Forward: the walks. -/
import Derived.Test.YtpojdgeginigjaaMCl
import Derived.Test.YtpojdgeginigjaaMDc
set_option linter.unusedSimpArgs false
set_option linter.unusedVariables false
namespace Go.Proofs.Ytpojdgeginigjaa
open Go Go.Ar
set_option maxRecDepth 100000

theorem and_mask {n : Nat} (hn : n < 2 ^ 32) : binop .and (.int .u64 n) (.int .u64 4294967295) = some (.int .u64 n) := by
  have e : (BitVec.ofInt 64 (n : Int) &&& BitVec.ofInt 64 4294967295).toNat = n := by
    rw [BitVec.toNat_and]
    have h1 : (BitVec.ofInt 64 (n : Int)).toNat = n := by rw [BitVec.toNat_ofInt]; omega
    have h2 : (BitVec.ofInt 64 4294967295).toNat = 2 ^ 32 - 1 := by decide
    rw [h1, h2, Nat.and_two_pow_sub_one_eq_mod]
    exact Nat.mod_eq_of_lt hn
  have e2 : IntKind.u64.wrap ((BitVec.ofInt 64 (n : Int) &&& BitVec.ofInt 64 4294967295).toNat : Int) = n := by
    rw [e]; simp [IntKind.wrap, IntKind.bits, IntKind.signed]; omega
  simp only [binop, if_true]
  exact congrArg (fun x => some (V.int .u64 x)) e2
theorem mul64_ok {n : Nat} (hn : n < 2 ^ 32) (H : Heap) : callL E (.f 137) [.int .u64 1, .int .u64 n] H = some (.tup [.int .u64 0, .int .u64 n], H) := by
  have key : ∃ v H', callL E (.f 137) [.int .u64 1, .int .u64 n] H = some (v, H') ∧ v = .tup [.int .u64 0, .int .u64 n] ∧ H' = H := by
    refine call_E rfl nc137 rfl ?_
    unfold gc137
    have b1 : binop .and (.int .u64 1) (.int .u64 4294967295) = some (.int .u64 1) := by rfl
    have b2 : binop .shr (.int .u64 1) (.int .u64 32) = some (.int .u64 0) := by rfl
    have b3 := and_mask hn
    have b4 : binop .shr (.int .u64 n) (.int .u64 32) = some (.int .u64 0) := by
      have : (n : Int).fdiv (2 ^ 32) = 0 := by rw [Int.fdiv_eq_ediv_of_nonneg _ (by omega)]; omega
      show some (V.int .u64 ((n : Int).fdiv (2 ^ 32))) = _
      rw [this]
    have b5 : binop .mul (.int .u64 1) (.int .u64 n) = some (.int .u64 n) := by
      have : IntKind.u64.wrap (1 * (n : Int)) = n := by simp [IntKind.wrap, IntKind.bits, IntKind.signed]; omega
      simp only [binop, if_true, this]
    have b6 : binop .mul (.int .u64 0) (.int .u64 n) = some (.int .u64 0) := by
      have : IntKind.u64.wrap (0 * (n : Int)) = 0 := by simp [IntKind.wrap, IntKind.bits, IntKind.signed]
      simp only [binop, if_true, this]
    have b7 : binop .add (.int .u64 0) (.int .u64 0) = some (.int .u64 0) := by rfl
    have b8 : binop .and (.int .u64 0) (.int .u64 4294967295) = some (.int .u64 0) := by rfl
    have b9 : binop .shr (.int .u64 0) (.int .u64 32) = some (.int .u64 0) := by rfl
    have b10 : binop .mul (.int .u64 1) (.int .u64 0) = some (.int .u64 0) := by rfl
    have b11 : binop .mul (.int .u64 0) (.int .u64 0) = some (.int .u64 0) := by rfl
    repeat refine wa_sr ⟨_, by simp -implicitDefEqProofs [-binop, b1, b2, b3, b4, b5, b6, b7, b8, b9, b10, b11]; rfl, ?_⟩
    have z0 : IntKind.u64.wrap 0 = 0 := by decide
    have zn : IntKind.u64.wrap (n : Int) = n := by simp [IntKind.wrap, IntKind.bits, IntKind.signed]; omega
    exact wa_ret ⟨by simp, _, by simp; rfl, by simp [pack, z0, zn], rfl⟩
  obtain ⟨v, H', h, rfl, rfl⟩ := key
  exact h
theorem mul_ok {n : Nat} (hn : n < 2 ^ 32) (H : Heap) : callL E (.f 129) [.int .u64 1, .int .u64 n] H = some (.tup [.int .u64 0, .int .u64 n], H) := by
  have key : ∃ v H', callL E (.f 129) [.int .u64 1, .int .u64 n] H = some (v, H') ∧ v = .tup [.int .u64 0, .int .u64 n] ∧ H' = H := by
    refine call_E rfl nc129 rfl ?_
    unfold gc129
    refine wa_sr ⟨_, by simp; rfl, ?_⟩
    refine wa_if (t := false) (by simp) (fun h => by cases h) (fun _ => ?_)
    refine wa_sr ⟨_, by simp -implicitDefEqProofs [mul64_ok hn]; rfl, ?_⟩
    refine wa_sr ⟨_, by simp; rfl, ?_⟩
    exact wa_ret ⟨by simp, _, by simp; rfl, rfl, rfl⟩
  obtain ⟨v, H', h, rfl, rfl⟩ := key
  exact h
theorem wrc_rep {n d e : Nat} {g : Nat → V} {v : V} (h : d + e ≤ n) : wrc (tb n g) d (List.replicate e v) = tb n fun j => if d ≤ j ∧ j < d + e then v else g j := by
  refine List.ext_getElem? fun j => ?_
  rw [getElem?_wrc _ _ _ _ (by simp; omega)]
  by_cases hj : j < n
  · have r1 := tb_get (g := fun j => if d ≤ j ∧ j < d + e then v else g j) hj
    have r2 := tb_get (g := g) hj
    rw [r1, r2]
    by_cases h1 : d ≤ j ∧ j < d + e
    · rw [if_pos (by simpa using h1), if_pos h1]
      rw [List.getElem?_replicate, if_pos (by omega)]
    · rw [if_neg (by simpa using h1), if_neg h1]
  · rw [if_neg (by simp; omega), List.getElem?_eq_none (by simp; omega), List.getElem?_eq_none (by simp; omega)]

set_option maxHeartbeats 2000000 in
theorem repeat_ok {x : V} {v : Int} {n : Nat} {H : Heap} (h : TB H x 1 fun _ => .int .i64 v) (hn : n ≤ 2 ^ 20) : callL E (.f 100) [x, .int .i64 n] H = some (.sl H.length 0 n n, H ++ [rI n fun _ => v]) := by
  have key : ∃ w H', callL E (.f 100) [x, .int .i64 n] H = some (w, H') ∧ w = .sl H.length 0 n n ∧ H' = H ++ [rI n fun _ => v] := by
    refine call_E rfl nc100 rfl ?_
    unfold gc100
    have h0 : ¬ ((n : Int) < 0) := by omega
    have w1 : IntKind.u64.wrap 1 = 1 := by decide
    have w2 : IntKind.u64.wrap (n : Int) = n := by simp [IntKind.wrap, IntKind.bits, IntKind.signed]; omega
    have w3 : IntKind.i64.wrap (n : Int) = n := w64 (by omega) (by omega)
    have h1 : ¬ ((9223372036854775807 : Int) < n) := by omega
    have hlim : (n : Int) ≤ (lim : Nat) := by unfold lim; omega
    have hp2 : (n : Int) * 8 ≤ 1099511627776 := by omega
    refine wa_sr ⟨_, by simp; rfl, ?_⟩
    refine wa_sr ⟨_, by simp -implicitDefEqProofs [h0]; rfl, ?_⟩
    refine wa_if (t := false) (by simp) (fun h => by cases h) (fun _ => ?_)
    refine wa_sr ⟨_, by simp -implicitDefEqProofs [h.len, w1, w2, mul_ok (show n < 2 ^ 32 by omega)]; rfl, ?_⟩
    refine wa_sr ⟨_, by simp -implicitDefEqProofs [h1]; rfl, ?_⟩
    refine wa_if (t := false) (by simp) (fun h => by cases h) (fun _ => ?_)
    refine wa_sr ⟨_, by simp -implicitDefEqProofs [w3, hlim, hp2]; rfl, ?_⟩
    have hc := (h.app [.cells (tb n fun _ => .int .i64 0) .ex])
    have hc2 : cellsOf (H ++ [.cells (tb n fun _ => .int .i64 0) .ex]) 1 x = some [.int .i64 v] := hc.cells
    have hmn : min n 1 = if n = 0 then 0 else 1 := by split <;> omega
    refine wa_cut (fun s => ∃ d : Nat, (d = n ∨ (1 ≤ d ∧ d ≤ n)) ∧ s.H = H ++ [.cells (tb n fun j => .int .i64 (if j < d then v else 0)) .ex] ∧ Rg s.τ [(7, .sl H.length 0 n n), (8, .int .i64 d)]) ?_ ?_
    · by_cases hn0 : n = 0
      · subst hn0
        refine wa_regs ⟨_, by simp -implicitDefEqProofs [h.len, hc2]; rfl, 0, .inl rfl, ?_, by simp [Rg]; try omega⟩
        simp [tb]
      · have hn1 : 1 ≤ n := by omega
        have hm : min n 1 = 1 := by omega
        refine wa_regs ⟨_, by simp -implicitDefEqProofs [h.len, hc2, hm, hn1]; rfl, 1, .inr ⟨Nat.le_refl _, hn1⟩, ?_, by simp [Rg]; omega⟩
        exact congrArg (fun c => H ++ [Blk.cells c Ar.Mode.ex]) (tb_congr fun j _ => by by_cases e : j = 0 <;> simp [e])
    · rintro ⟨τ, H'⟩ ⟨d, hd, hH', t7, t8, -⟩
      dsimp only at hH' t7 t8
      subst hH'
      refine wa_cut (fun s => s.H = H ++ [rI n fun _ => v] ∧ s.τ 7 = .sl H.length 0 n n) ?_ ?_
      · refine wa_wh0 (fun q s => ∃ d : Nat, q = n - d ∧ (d = n ∨ (1 ≤ d ∧ d ≤ n)) ∧ s.H = H ++ [.cells (tb n fun j => .int .i64 (if j < d then v else 0)) .ex] ∧ Rg s.τ [(7, .sl H.length 0 n n), (8, .int .i64 d)]) (n - d) ⟨d, rfl, hd, rfl, by simp [Rg, t7, t8]⟩ ?_
        clear t7 t8 τ hd d
        rintro q ⟨τ, _⟩ ⟨d, rfl, hd, rfl, t7, t8, -⟩
        dsimp only at t7 t8
        refine ⟨_, decide (d < n), by simp [t7, t8]; rfl, by simp, fun ht => ?_, fun ht => ?_⟩
        · have hlt : d < n := by simpa using ht
          have hd1 : 1 ≤ d := by omega
          have hdn : ¬ (n = d) := by omega
          have hdn2 : ¬ ((d : Int) = n) := by omega
          have hle : d ≤ n := by omega
          have hleI : (d : Int) ≤ n := by omega
          have htk : ((tb n fun j => V.int .i64 (if j < d then v else 0)).take d).take (min (n - d) d) = List.replicate (min (n - d) d) (.int .i64 v) := by
            refine List.ext_getElem? fun j => ?_
            rw [List.take_take, List.getElem?_take, List.getElem?_replicate]
            have e : min (min (n - d) d) d = min (n - d) d := by omega
            rw [e]
            by_cases hj : j < min (n - d) d
            · rw [if_pos hj, if_pos hj, tb_get (by omega), if_pos (by omega)]
            · rw [if_neg hj, if_neg hj]
          have hwr : wr (H ++ [.cells (tb n fun j => .int .i64 (if j < d then v else 0)) .ex]) H.length d (((tb n fun j => V.int .i64 (if j < d then v else 0)).take d).take (min (n - d) d)) = some (H ++ [.cells (tb n fun j => .int .i64 (if j < d + min (n - d) d then v else 0)) .ex]) := by
            rw [htk, wr_app0, wr_c0, if_neg (by simp [Ar.Mode.wr]), if_pos (by simp; omega), if_pos (by rw [List.all_eq_true]; intro y hy; rw [List.mem_replicate] at hy; rw [hy.2]; rfl), wrc_rep (by omega)]
            simp only [Option.map_some]
            congr 4
            exact tb_congr fun j _ => by
              by_cases h1 : j < d
              · rw [if_neg (by omega), if_pos h1, if_pos (by omega)]
              · by_cases h2 : j < d + min (n - d) d
                · rw [if_pos (by omega), if_pos h2]
                · rw [if_neg (by omega), if_neg h1, if_neg h2]
          have hcel : cellsOf (H ++ [.cells (tb n fun j => .int .i64 (if j < d then v else 0)) .ex]) 1 (.sl H.length 0 d n) = some ((tb n fun j => V.int .i64 (if j < d then v else 0)).take d) := by
            simp [cellsOf, hle]
          have hs1 : slcv (H ++ [.cells (tb n fun j => .int .i64 (if j < d then v else 0)) .ex]) 1 (.sl H.length 0 n n) (some (.int .i64 d)) none = some (.sl H.length d (n - d) (n - d)) := by
            simp [slcv, hiOf, loOf, hleI, getElem?_app0, hdn2, hle]
          have hs2 : slcv (H ++ [.cells (tb n fun j => .int .i64 (if j < d then v else 0)) .ex]) 1 (.sl H.length 0 n n) none (some (.int .i64 d)) = some (.sl H.length 0 d n) := by
            have hn0 : ¬ (0 = (n : Int)) := by omega
            simp [slcv, hiOf, loOf, hleI, getElem?_app0, hn0, hle]
          have hwd : IntKind.i64.wrap ((d : Int) + ((min (n - d) d : Nat) : Int)) = ((d + min (n - d) d : Nat) : Int) := by rw [w64 (by omega) (by omega)]; omega
          have hen : d + min (n - d) d ≤ n := by omega
          have he1 : 1 ≤ min (n - d) d := by omega
          have hcp : ∀ (call : CallF) (τ : Nat → V), τ 41 = .sl H.length d (n - d) (n - d) → τ 44 = .sl H.length 0 d n → aop call τ (H ++ [.cells (tb n fun j => .int .i64 (if j < d then v else 0)) .ex]) (.copy 1 (.t 41) (.t 44)) = some (.int .i64 ((min (n - d) d : Nat) : Int), H ++ [.cells (tb n fun j => .int .i64 (if j < d + min (n - d) d then v else 0)) .ex]) := fun call τ q1 q2 => by
            rw [aop_copy]
            simp only [ev, q1, q2, lenAt_sl, hcel, Nat.mul_one]
            rw [Nat.min_comm d (n - d), hwr]
            have : min (d : Int) ((n - d : Nat) : Int) = ((min (n - d) d : Nat) : Int) := by omega
            rw [this]; rfl
          clear hwr htk
          generalize hmm : min (n - d) d = e at *
          refine wa_drl rfl rfl ⟨_, by simp -implicitDefEqProofs [-aop_copy, t7, t8, hs1, hs2, hcp]; rfl, ?_⟩
          exact ⟨n - (d + e), by omega, d + e, rfl, by omega, rfl, by simp [Rg, t7]; simpa using hwd⟩
        · have hge : ¬ d < n := by simpa using ht
          refine ⟨?_, by simp [t7]⟩
          have : d = n := by omega
          subst this
          simp only [rI]
          congr 3
          exact tb_congr fun j hj => by rw [if_pos hj]
      · rintro ⟨τ, H'⟩ ⟨h', t7⟩
        dsimp only at h' t7
        subst h'
        refine wa_sr ⟨_, by simp [t7]; rfl, ?_⟩
        exact wa_ret ⟨by simp, _, by simp; rfl, rfl, rfl⟩
  obtain ⟨w, H', h1, rfl, rfl⟩ := key
  exact h1
end Go.Proofs.Ytpojdgeginigjaa
