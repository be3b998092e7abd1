/- Each operation but a call: what the abstract run answers, the machine's operation answers. Fifth part: copy, clear, maps; all operations together. -/
import Derived.Test.YtpojdgeginigjaaAr8
set_option linter.unusedSimpArgs false
set_option linter.unusedVariables false
namespace Go.Ar
open Go.RowKit
variable {P : Program} {B0 : Nat} {w0 : World} {ρ : Rho} {H : Heap} {D : List Nat} {w : World} {nt : Nat} {τ : Nat → V} {a : Act}

theorem lenOf_sl {y : V} {y' : Value} (hy : R ρ y y') {m : Nat} (hm : lenOf y = some m) : ∃ b c, y' = .slice b m c := by
  cases hy <;> simp [lenOf] at hm <;> subst hm <;> exact ⟨_, _, rfl⟩

theorem op_copy (hS : Sim P B0 w0 ρ H D w) {t u e : TypeId} (he : telem P t = some e) {size : Nat} (hn : tsize P e = some size) {ty : TypeId} {x y : V} {x' y' : Value} (hx : R ρ x x') (hy : R ρ y y')
    {n m : Nat} (hlx : lenOf x = some n) (hly : lenOf y = some m) {ys : List V} (hys : cellsOf H size y = some ys) {k o c : Nat} (hxe : x = .sl k o n c) {H' : Heap} (hw : wr H k o (ys.take (min m n * size)) = some H') :
    ∃ w', (Builtin.copy_ #[t, u] ty #[x', y']).run P w = .ok (goInt (min m n : Nat)) w' ∧ Sim P B0 w0 ρ H' D w' := by
  subst hxe
  obtain ⟨yb, yc, ys', ey, hy1, hy2, hy3⟩ := cells_run hS hy hys hly
  subst ey
  cases hx with
  | sl hL hcap =>
    obtain ⟨w', h1, h2⟩ := wr_ok hS hw hL (hy1.take _)
    refine ⟨w', ?_, h2⟩
    have hf := hy3 (min m n) w (Nat.min_le_left _ _) rfl
    simp [Builtin.copy_, run_underlying (telem_u he), Builtin.lenOf, tsize_run hn, Nat.min_def] at hf ⊢
    simp only [Nat.min_def] at h1
    rw [hf]
    simp [h1]
theorem op_copy_nil (hS : Sim P B0 w0 ρ H D w) {t u e : TypeId} (he : telem P t = some e) {size : Nat} (hn : tsize P e = some size) {ty : TypeId} {y : V} {y' : Value} (hy : R ρ y y')
    {m : Nat} (hly : lenOf y = some m) {ys : List V} (hys : cellsOf H size y = some ys) : (Builtin.copy_ #[t, u] ty #[.slice none 0 0, y']).run P w = .ok (goInt 0) w := by
  obtain ⟨yb, yc, ys', ey, hy1, hy2, hy3⟩ := cells_run hS hy hys hly
  subst ey
  have hf := hy3 0 w (Nat.zero_le _) rfl
  simp [Builtin.copy_, run_underlying (telem_u he), Builtin.lenOf, tsize_run hn] at hf ⊢
  rw [hf]
  simp

theorem zeroCells_row (z : Array Value) (hz : 0 < z.size) (len : Nat) : (Builtin.zeroCells z len).toList = (List.replicate len z.toList).flatten := by
  rw [← zeros_row z hz len]; rfl

theorem op_clear (hS : Sim P B0 w0 ρ H D w) {t e : TypeId} (he : telem P t = some e) {zs : List V} (hz : tzero P e = some zs) {size : Nat} (hn : tsize P e = some size) (h0 : 0 < size) {ty : TypeId} {k o n c : Nat} {x' : Value} (hx : R ρ (.sl k o n c) x')
    (hn0 : n ≠ 0) {H' : Heap} (hw : wr H k o (List.replicate n zs).flatten = some H') : ∃ w', (Builtin.clear_ #[t] ty #[x']).run P w = .ok (.tuple #[]) w' ∧ Sim P B0 w0 ρ H' D w' := by
  obtain ⟨i, z, hi, hz', hs, rfl, _⟩ := tzero_of hz
  have hin : i.size = size := by simp [tsize, hi] at hn; exact hn
  cases hx with
  | sl hL hcap =>
    obtain ⟨w', h1, h2⟩ := wr_ok hS hw hL ((zero_RL ρ z).flat n)
    refine ⟨w', ?_, h2⟩
    rw [← zeroCells_row z.cells (by omega) n] at h1
    obtain ⟨n', rfl⟩ : ∃ n', n = n' + 1 := ⟨n - 1, by omega⟩
    simp [Builtin.clear_, run_underlying (telem_u he), tzero_run hi hz', h1]
theorem op_clear0 {t e : TypeId} (he : telem P t = some e) {ty : TypeId} {k o c : Nat} {x' : Value} (hx : R ρ (.sl k o 0 c) x') (w : World) : (Builtin.clear_ #[t] ty #[x']).run P w = .ok (.tuple #[]) w := by
  cases hx with
  | sl hL hcap => simp [Builtin.clear_, run_underlying (telem_u he)]
theorem op_clear_nil {t e : TypeId} (he : telem P t = some e) {ty : TypeId} (w : World) : (Builtin.clear_ #[t] ty #[.slice none 0 0]).run P w = .ok (.tuple #[]) w := by
  simp [Builtin.clear_, run_underlying (telem_u he)]

/-! ### Maps -/
theorem keyInt_u {t : TypeId} (h : keyOk P t = some .int) : ∃ k, P.underlying t = some (.int k) := by
  unfold keyOk at h
  split at h
  · exact ⟨_, by assumption⟩
  · split at h
    · split at h <;> cases h
    · cases h
  · cases h
theorem keyPair_u {t : TypeId} (h : keyOk P t = some .pair) : ∃ e k, P.underlying t = some (.array 2 e) ∧ tsize P e = some 1 ∧ P.underlying e = some (.int k) := by
  unfold keyOk at h
  split at h
  · cases h
  · rename_i e hu
    split at h
    · rename_i hs
      split at h
      · rename_i k hk; exact ⟨e, k, hu, hs, hk⟩
      · cases h
    · cases h
  · cases h

theorem pair_inv {k k' : IntKind} {x y : Int} {v : Value} (h : R ρ (.agg [.int k x, .int k' y]) v) : v = .agg #[.int k x, .int k' y] := by
  obtain ⟨cs, rfl, hl⟩ := h.toAgg
  obtain ⟨u, r, e1, h1, h2⟩ := hl.uncons
  obtain ⟨u2, r2, e2, h3, h4⟩ := h2.uncons
  obtain rfl := h1.int_inv
  obtain rfl := h3.int_inv
  have : r2 = [] := by have := h4.1; cases r2 with | nil => rfl | cons => simp at this
  subst this
  subst e2
  congr 1
  apply Array.ext'
  rw [e1]

theorem keyWf_pair {x : V} (h : keyWf .pair x = true) : ∃ k k' a b, x = .agg [.int k a, .int k' b] := by
  cases x <;> (try (simp [keyWf] at h; done))
  rename_i cs
  match cs, h with
  | [.int k a, .int k' b], _ => exact ⟨k, k', a, b, rfl⟩
theorem keyWf_int {x : V} (h : keyWf .int x = true) : ∃ k a, x = .int k a := by
  cases x <;> (try (simp [keyWf] at h; done))
  exact ⟨_, _, rfl⟩

theorem checkKey_ok {t : TypeId} {kk : KK} (hk : keyOk P t = some kk) {x : V} (hw : keyWf kk x = true) {x' : Value} (hx : R ρ x x') (em : Bool) (w : World) : (Instr.checkKey em 10000 t x').run P w = .ok () w := by
  cases kk with
  | int =>
    obtain ⟨k, hu⟩ := keyInt_u hk
    obtain ⟨k', a, rfl⟩ := keyWf_int hw
    obtain rfl := hx.int_inv
    rw [show (10000 : Nat) = 9999 + 1 from rfl, Instr.checkKey]
    simp [run_underlying hu]
  | pair =>
    obtain ⟨e, k, hu, hs, hue⟩ := keyPair_u hk
    obtain ⟨k1, k2, a, b, rfl⟩ := keyWf_pair hw
    obtain rfl := pair_inv hx
    rw [show (10000 : Nat) = 9999 + 1 from rfl, Instr.checkKey]
    simp only [Sem.run_bind, run_underlying hu, Result.andThen_ok]
    simp only [Std.Legacy.Range.forIn_eq_forIn_range', Std.Legacy.Range.size, Nat.sub_zero, Nat.add_sub_cancel, Nat.div_one, List.range'_succ, List.range'_zero, List.forIn_cons, List.forIn_nil]
    have hc : ∀ (v : Value) (w : World), (Instr.checkKey em 9999 e v).run P w = .ok () w := fun v w => by
      rw [show (9999 : Nat) = 9998 + 1 from rfl, Instr.checkKey]
      simp [run_underlying hue]
    simp [tsize_run hs, part, isAgg, run_underlying hue, hc]

theorem eqPair_ok {t e : TypeId} {k : IntKind} (hu : P.underlying t = some (.array 2 e)) (hs : tsize P e = some 1) (hue : P.underlying e = some (.int k)) (k1 k2 : IntKind) (a b c d : Int) (w : World) :
    (Op.equal t (.agg #[.int k1 a, .int k2 b]) (.agg #[.int k1 c, .int k2 d])).run P w = .ok (a == c && b == d) w := by
  rw [Op.equal, show Op.maxDepth = 9998 + 1 + 1 from rfl, Op.equalIn]
  simp only [Sem.run_bind, run_underlying hu, Result.andThen_ok]
  simp only [Std.Legacy.Range.forIn_eq_forIn_range', Std.Legacy.Range.size, Nat.sub_zero, Nat.add_sub_cancel, Nat.div_one, List.range'_succ, List.range'_zero, List.forIn_cons, List.forIn_nil]
  have hi : ∀ (k : IntKind) (x y : Int) (w : World), (Op.equalIn (9998 + 1) e (.int k x) (.int k y)).run P w = .ok (x == y) w := fun k x y w => run_equalIn_int w 9998 e _ _ x y hue
  simp [tsize_run hs, part, isAgg, run_underlying hue, hi]
  by_cases h1 : a = c <;> by_cases h2 : b = d <;> simp [h1, h2]

theorem keyEq_int_inv {k : IntKind} {a : Int} {y : V} {r : Bool} (h : keyEq (.int k a) y = some r) : ∃ b, y = .int k b ∧ r = (a == b) := by
  cases y <;> simp only [keyEq] at h <;> (try (cases h; done))
  split at h
  · rename_i hkk; subst hkk; cases h; exact ⟨_, rfl, rfl⟩
  · cases h
theorem keyEq_pair_inv {k1 k2 : IntKind} {a b : Int} {y : V} {r : Bool} (h : keyEq (.agg [.int k1 a, .int k2 b]) y = some r) : ∃ c d, y = .agg [.int k1 c, .int k2 d] ∧ r = (a == c && b == d) := by
  unfold keyEq at h
  split at h
  · rename_i e; cases e
  · rename_i e
    injection e with e
    injection e with e1 e
    injection e with e2 e
    injection e1 with e11 e12
    injection e2 with e21 e22
    subst e11; subst e12; subst e21; subst e22
    split at h
    · rename_i hkk; obtain ⟨rfl, rfl⟩ := hkk; cases h; exact ⟨_, _, rfl, rfl⟩
    · cases h
  · cases h

theorem keyEq_ok {t : TypeId} {kk : KK} (hk : keyOk P t = some kk) {x y : V} (hw : keyWf kk x = true) {x' y' : Value} (hx : R ρ x x') (hy : R ρ y y') {r : Bool} (h : keyEq x y = some r) (w : World) :
    (Op.equal t x' y').run P w = .ok r w ∧ (kk = .int → ∀ k, Instr.sameNow (.int k) x' y' = some r) ∧ (kk = .pair → ∀ n e, Instr.sameNow (.array n e) x' y' = none) := by
  cases kk with
  | int =>
    obtain ⟨k, hu⟩ := keyInt_u hk
    obtain ⟨k', a, rfl⟩ := keyWf_int hw
    obtain rfl := hx.int_inv
    obtain ⟨b, rfl, rfl⟩ := keyEq_int_inv h
    obtain rfl := hy.int_inv
    exact ⟨run_equalIn_int w 9999 t k' k a b hu, fun _ k => by simp [Instr.sameNow], fun hh => by cases hh⟩
  | pair =>
    obtain ⟨e, k, hu, hs, hue⟩ := keyPair_u hk
    obtain ⟨k1, k2, a, b, rfl⟩ := keyWf_pair hw
    obtain rfl := pair_inv hx
    obtain ⟨c, d, rfl, rfl⟩ := keyEq_pair_inv h
    obtain rfl := pair_inv hy
    exact ⟨eqPair_ok hu hs hue _ _ _ _ _ _ w, ⟨(fun hh => by cases hh), fun _ n e => rfl⟩⟩

theorem keyEq_true {kk : KK} {x y : V} (hw : keyWf kk x = true) {x' y' : Value} (hx : R ρ x x') (hy : R ρ y y') (h : keyEq x y = some true) : Instr.sameBits 10000 y' x' = true ∧ R ρ x y' := by
  cases kk with
  | int =>
    obtain ⟨k', a, rfl⟩ := keyWf_int hw
    obtain rfl := hx.int_inv
    obtain ⟨b, rfl, hr⟩ := keyEq_int_inv h
    simp at hr; subst hr
    exact ⟨by rw [hy.int_inv]; simp [Instr.sameBits], hy⟩
  | pair =>
    obtain ⟨k1, k2, a, b, rfl⟩ := keyWf_pair hw
    obtain rfl := pair_inv hx
    obtain ⟨c, d, rfl, hr⟩ := keyEq_pair_inv h
    simp at hr
    obtain ⟨rfl, rfl⟩ := hr
    exact ⟨by rw [pair_inv hy]; simp [Instr.sameBits], hy⟩

/-- The entries of a map, and where a key stands. -/
theorem find_ok {t : TypeId} {kk : KK} (hk : keyOk P t = some kk) {x : V} (hw : keyWf kk x = true) {x' : Value} (hx : R ρ x x') (w : World) : ∀ (es : List (V × V)) (en : List MapEntry) (i : Nat) (r : Option (Nat × V)), es.length = en.length →
    (∀ (j : Nat) (kv : V × V), es[j]? = some kv → ∃ e, en[j]? = some e ∧ R ρ kv.1 e.key ∧ R ρ kv.2 e.val) → findk x es i = some r →
    ∃ r', (∀ k, kk = .int → Instr.findNow (.int k) x' en i = some r') ∧ (Instr.findAsking t x' en i).run P w = .ok r' w ∧
      (match r with | none => r' = none | some (j, v) => ∃ v', r' = some (j, v') ∧ R ρ v v' ∧ ∃ e, i ≤ j ∧ en[j - i]? = some e ∧ e.val = v' ∧ (Instr.sameBits 10000 e.key x' = true) ∧ R ρ x e.key)
  | [], en, i, r, hl, he, h => by
    have : en = [] := by simpa using hl.symm
    subst this
    simp [findk] at h; subst h
    exact ⟨none, fun k _ => rfl, by simp [Instr.findAsking], rfl⟩
  | kv :: es, [], i, r, hl, he, h => by simp at hl
  | kv :: es, e :: en, i, r, hl, he, h => by
    obtain ⟨e', h1, h2, h3⟩ := he 0 kv rfl
    cases h1
    simp only [findk] at h
    cases hke : keyEq x kv.1 with
    | none => simp [hke] at h
    | some b =>
      obtain ⟨hq1, hq2, hq3⟩ := keyEq_ok hk hw hx h2 hke w
      cases b with
      | true =>
        simp only [hke, Option.some.injEq] at h
        subst h
        obtain ⟨s1, s2⟩ := keyEq_true hw hx h2 hke
        exact ⟨some (i, e.val), fun k hkk => by simp [Instr.findNow, hq2 hkk k], by simp [Instr.findAsking, hq1], e.val, rfl, h3, e, Nat.le_refl _, by simp, rfl, s1, s2⟩
      | false =>
        simp only [hke] at h
        obtain ⟨r', i1, i2, i3⟩ := find_ok hk hw hx w es en (i + 1) r (by simpa using hl) (fun j kv' hj => by have := he (j + 1) kv' (by simpa using hj); simpa using this) h
        refine ⟨r', fun k hkk => by simp [Instr.findNow, hq2 hkk k, i1 k hkk], by simp [Instr.findAsking, hq1, i2], ?_⟩
        cases r with
        | none => exact i3
        | some jv =>
          obtain ⟨j, v⟩ := jv
          obtain ⟨v', j1, j2, e2, j3, j4, j5⟩ := i3
          refine ⟨v', j1, j2, e2, by omega, ?_, j5⟩
          obtain ⟨d, hd⟩ : ∃ d, j - i = d + 1 := ⟨j - i - 1, by omega⟩
          rw [hd]
          rw [show j - (i + 1) = d by omega] at j4
          simpa using j4

theorem findKey_ok {t : TypeId} {kk : KK} (hk : keyOk P t = some kk) {x : V} (hw : keyWf kk x = true) {x' : Value} (hx : R ρ x x') (w : World) {es : List (V × V)} {en : Array MapEntry} {cl : Nat} (hm : MapOk ρ es en cl) {r : Option (Nat × V)}
    (h : findk x es 0 = some r) : ∃ r', (Instr.findKey t x' en.toList).run P w = .ok r' w ∧
      (match r with | none => r' = none | some (j, v) => ∃ v', r' = some (j, v') ∧ R ρ v v' ∧ ∃ e, en[j]? = some e ∧ e.val = v' ∧ (Instr.sameBits 10000 e.key x' = true) ∧ R ρ x e.key) := by
  obtain ⟨r', h1, h2, h3⟩ := find_ok hk hw hx w es en.toList 0 r (by have := hm.1; simp; omega) (fun j kv hj => by
    obtain ⟨e, a1, a2, a3, _⟩ := hm.2.2 j kv hj
    exact ⟨e, by simpa using a1, a2, a3⟩) h
  refine ⟨r', ?_, ?_⟩
  · cases kk with
    | int =>
      obtain ⟨k, hu⟩ := keyInt_u hk
      simp [Instr.findKey, run_underlying hu, h1 k rfl]
    | pair =>
      obtain ⟨e, k, hu, hs, hue⟩ := keyPair_u hk
      simp only [Instr.findKey, Sem.run_bind, run_underlying hu, Result.andThen_ok]
      split
      · rename_i r2 hr2
        cases hl : en.toList with
        | nil =>
          rw [hl] at hr2 h2
          simp [Instr.findNow] at hr2; subst hr2
          simp [Instr.findAsking] at h2; subst h2; rfl
        | cons e0 en0 =>
          exfalso
          rw [hl] at hr2
          cases es with
          | nil => have := hm.1; rw [← Array.length_toList, hl] at this; simp at this
          | cons kv es0 =>
            obtain ⟨e1, a1, a2, a3, _⟩ := hm.2.2 0 kv rfl
            have : e1 = e0 := by
              have : en.toList[0]? = some e1 := by simpa using a1
              rw [hl] at this; simpa using this.symm
            subst this
            simp only [findk] at h
            cases hke : keyEq x kv.1 with
            | none => simp [hke] at h
            | some b =>
              have := (keyEq_ok hk hw hx a2 hke w).2.2 rfl 2 e
              simp [Instr.findNow, this] at hr2
      · exact h2
  · cases r with
    | none => exact h3
    | some jv =>
      obtain ⟨j, v⟩ := jv
      obtain ⟨v', j1, j2, e2, _, j4, j5⟩ := h3
      exact ⟨v', j1, j2, e2, by simpa using j4, j5⟩
end Go.Ar
