/- Each operation but a call: what the abstract run answers, the machine's operation answers. Second half. -/
import Derived.Test.YtpojdgeginigjaaAr5
set_option linter.unusedSimpArgs false
set_option linter.unusedVariables false
namespace Go.Ar
open Go.RowKit
variable {P : Program} {B0 : Nat} {w0 : World} {ρ : Rho} {H : Heap} {D : List Nat} {w : World} {nt : Nat} {τ : Nat → V} {a : Act}

theorem op_build_struct (hS : Sim P B0 w0 ρ H D w) (hτ : RT ρ nt τ a.tmps) {t : TypeId} {zs : List V} (hz : tzero P t = some zs) {fields : Array Field} (hu : P.underlying t = some (.struct fields))
    (hall : (fields.toList.all fun f => (tsize P f.type).isSome) = true) {parts : Array (Nat × Operand)} {ps : List (Nat × Nat × X)}
    (hps : (parts.toList.mapM fun p => match fields[p.1]? with | some f => (tsize P f.type).map fun n => (f.offset, n, cX p.2) | none => none) = some ps) {cs : List V}
    (h : fillc zs (ps.map fun p => (p.1, p.2.1, ev τ p.2.2)) = some cs) :
    Res P B0 w0 D ρ H w (do pure (.value (← Instr.build t (parts.map fun (i, x) => (i, a.eval x))))) (.agg cs) H := by
  obtain ⟨i, z, hi, hz', hs, rfl, _⟩ := tzero_of hz
  obtain ⟨pl, hpl, hpl2⟩ := run_places (P := P) (fields := fields) (w := w) (fun f hf => Option.isSome_iff_exists.1 (List.all_eq_true.1 hall f (by simpa using hf)))
  obtain ⟨hl, hm⟩ := mapM_some hps
  obtain ⟨r', h1, h2⟩ := fill_ok (ρ := ρ) (pl[·]?) (ps.map fun p => (p.1, p.2.1, ev τ p.2.2)) (parts.toList.map fun (i, x) => (i, a.eval x)) _ z.cells cs (zero_RL ρ z) (by simp [hl]) (fun j q q' hq hq' => by
    simp only [List.getElem?_map, Option.map_eq_some_iff] at hq hq'
    obtain ⟨p, hp, rfl⟩ := hq
    obtain ⟨p', hp', rfl⟩ := hq'
    obtain ⟨y, hy, hfy⟩ := hm j p' hp'
    rw [hp] at hy; cases hy
    cases hf : fields[p'.1]? with
    | none => simp [hf] at hfy
    | some f =>
      simp only [hf, Option.map_eq_some_iff] at hfy
      obtain ⟨n, hn, rfl⟩ := hfy
      exact ⟨hpl2 _ f n hf hn, ev_ok hτ _⟩) h
  refine Res.same (v' := .agg r') hS ?_ (R.ofAgg h2)
  simp only [Instr.build, Sem.run_bind, tzero_run hi hz', Result.andThen_ok, run_underlying hu, hpl, Array.toList_map]
  rw [h1]
  rfl

theorem op_build_array (hS : Sim P B0 w0 ρ H D w) (hτ : RT ρ nt τ a.tmps) {t : TypeId} {zs : List V} (hz : tzero P t = some zs) {len : Nat} {e : TypeId} (hu : P.underlying t = some (.array len e))
    {n : Nat} (hn : tsize P e = some n) {parts : Array (Nat × Operand)} {cs : List V}
    (h : fillc zs ((parts.toList.map fun p => (p.1 * n, n, cX p.2)).map fun p => (p.1, p.2.1, ev τ p.2.2)) = some cs) :
    Res P B0 w0 D ρ H w (do pure (.value (← Instr.build t (parts.map fun (i, x) => (i, a.eval x))))) (.agg cs) H := by
  obtain ⟨i, z, hi, hz', hs, rfl, _⟩ := tzero_of hz
  obtain ⟨r', h1, h2⟩ := fill_ok (ρ := ρ) (fun i => some (i * n, n)) _ (parts.toList.map fun (i, x) => (i, a.eval x)) _ z.cells cs (zero_RL ρ z) (by simp) (fun j q q' hq hq' => by
    simp only [List.getElem?_map, Option.map_eq_some_iff, List.map_map] at hq hq'
    obtain ⟨p, hp, rfl⟩ := hq
    obtain ⟨p', hp', rfl⟩ := hq'
    rw [hp] at hp'; cases hp'
    exact ⟨rfl, ev_ok hτ _⟩) h
  refine Res.same (v' := .agg r') hS ?_ (R.ofAgg h2)
  simp only [Instr.build, Sem.run_bind, tzero_run hi hz', Result.andThen_ok, run_underlying hu, tsize_run hn, Array.toList_map]
  rw [h1]
  rfl

theorem zeros_row (z : Array Value) (hz : 0 < z.size) : ∀ (len : Nat), ((Array.range (len * z.size)).map (z[· % z.size]!)).toList = (List.replicate len z.toList).flatten
  | 0 => by simp
  | len + 1 => by
    have ih := zeros_row z hz len
    rw [List.replicate_succ', List.flatten_append, ← ih]
    simp only [Array.toList_map, Array.toList_range, List.flatten_cons, List.flatten_nil, List.append_nil]
    rw [show (len + 1) * z.size = len * z.size + z.size by rw [Nat.add_mul]; omega, List.range_add, List.map_append]
    congr 1
    apply List.ext_getElem?
    intro i
    simp only [List.map_map, List.getElem?_map]
    by_cases hi : i < z.size
    · simp [List.getElem?_range hi, Nat.mul_add_mod_self_right, Nat.mod_eq_of_lt hi, hi]
    · simp [hi]
theorem madeCells_row (z : Array Value) (hz : 0 < z.size) (len : Nat) : (madeCells z (len * z.size)).toList = (List.replicate len z.toList).flatten := by
  rw [← zeros_row z hz len]; rfl

theorem op_bslice (hS : Sim P B0 w0 ρ H D w) (hτ : RT ρ nt τ a.tmps) {t e : TypeId} (he : telem P t = some e) {n len : Nat} (hn : tsize P e = some n) {zs : List V} (hz : tzero P e = some zs)
    (h0 : 0 < n) (hlim : len * n ≤ 2 ^ 24) {parts : Array (Nat × Operand)} {cs : List V}
    (h : fillc (List.replicate len zs).flatten ((parts.toList.map fun p => (p.1 * n, cX p.2)).map fun p => (p.1, n, ev τ p.2)) = some cs) :
    ∃ cs' : Array Value, RL ρ cs cs'.toList ∧ (Instr.buildSlice t len (parts.map fun (i, x) => (i, a.eval x))).run P w = .ok (.slice (some ⟨w.heap.size, 0, none⟩) len len) (w.alloc (.cells cs' e)) := by
  obtain ⟨i, z, hi, hz', hs, rfl, _⟩ := tzero_of hz
  have hin : i.size = n := by simp [tsize, hi] at hn; exact hn
  rw [hin] at hs
  have hzr : RL ρ (List.replicate len (z.cells.toList.map absS)).flatten ((Array.range (len * n)).map (z.cells[· % z.cells.size]!)).toList := by
    have := zeros_row z.cells (by omega) len
    rw [hs] at this ⊢
    rw [this]; exact (zero_RL ρ z).flat len
  obtain ⟨r', h1, h2⟩ := fill_ok (ρ := ρ) (fun i => some (i * n, n)) _ (parts.toList.map fun (i, x) => (i, a.eval x)) _ _ cs hzr (by simp) (fun j q q' hq hq' => by
    simp only [List.getElem?_map, Option.map_eq_some_iff, List.map_map] at hq hq'
    obtain ⟨p, hp, rfl⟩ := hq
    obtain ⟨p', hp', rfl⟩ := hq'
    rw [hp] at hp'; cases hp'
    exact ⟨rfl, ev_ok hτ _⟩) h
  refine ⟨r', h2, ?_⟩
  have hlim' : ¬ (len * n > 2 ^ 24) := by omega
  by_cases hl : len * n = 0
  · have hc : ((Array.range (len * n)).map (z.cells[· % z.cells.size]!)) = (Array.range (len * n)).map ((#[] : Array Value)[· % (#[] : Array Value).size]!) := by
      rw [hl]; apply Array.ext'; simp
    rw [hc] at h1
    simp only [Instr.buildSlice, Sem.run_bind, run_underlying (telem_u he), Result.andThen_ok, tsize_run hn, if_neg hlim', Sem.run_ite, Sem.run_pure, hl, if_true, Array.toList_map]
    rw [hl] at h1
    simp only [h1]
    simp [run_newRow]
  · simp only [Instr.buildSlice, Sem.run_bind, run_underlying (telem_u he), Result.andThen_ok, tsize_run hn, if_neg hlim', Sem.run_ite, Sem.run_pure, if_neg hl, tzero_run hi hz', Array.toList_map]
    rw [h1]
    simp [run_newRow]

theorem eqGuard_run {op : BinOp} {t : TypeId} {x y : Operand} {u v : Value} (h1 : u ≠ .nilIface) (h2 : ∀ cs, u ≠ .agg cs) : (eqGuard op t x y u v).run P w = .ok () w := by
  unfold eqGuard
  cases u with
  | nilIface => exact absurd rfl h1
  | agg cs => exact absurd rfl (h2 cs)
  | _ => cases op <;> rfl

theorem binop_ok {op : BinOp} {t : TypeId} {x y v : V} {x' y' : Value} (hx : R ρ x x') (hy : R ρ y y') (h : binop op x y = some v) (w : World) :
    ∃ v', (binOp op t x' y').run P w = .ok v' w ∧ R ρ v v' ∧ x' ≠ .nilIface ∧ ∀ cs, x' ≠ .agg cs := by
  cases hx <;> cases hy <;> first | (simp [binop] at h; done) | skip
  rename_i k n k' m
  cases op <;> simp only [binop] at h <;> (try split at h) <;> (try split at h) <;> (try (cases h; done)) <;> (try (simp at h; done)) <;>
    (first | (cases h) | skip) <;> refine ⟨_, ?_, by first | exact R.int _ _ | exact R.bool _, by simp, by simp⟩ <;>
    simp_all [binOp, Op.intArith, Op.intDiv, Op.intBits, Op.intCmp, Op.shift]
  all_goals first | omega | (intro hlt; omega) | skip

theorem R.int_inv {k : IntKind} {n : Int} {v : Value} (h : R ρ (.int k n) v) : v = .int k n := by cases h; rfl
theorem R.bool_inv {b : Bool} {v : Value} (h : R ρ (.bool b) v) : v = .bool b := by cases h; rfl

/-- Structs of whole numbers and bools. -/
theorem eqFields_ok (d : Nat) (xs ys : Array Value) (w : World) : ∀ (fs : List Field) (ks : List Bool) (off : Nat) (us vs : List V) (r : Bool),
    ks.length = fs.length → (∀ (i : Nat) (f : Field) (b : Bool), fs[i]? = some f → ks[i]? = some b → f.offset = off + i ∧ f.name ≠ "_" ∧ (b = true → ∃ k, P.underlying f.type = some (.int k)) ∧ (b = false → P.underlying f.type = some .bool)) →
    RL ρ us (xs.toList.drop off) → RL ρ vs (ys.toList.drop off) → eqAll ks us vs = some r →
    (Op.eqFields (d + 1) xs ys fs).run P w = .ok r w
  | [], ks, off, us, vs, r, hks, _, hu, hv, h => by
    cases ks with
    | nil => cases us <;> cases vs <;> simp [eqAll] at h; subst h; rfl
    | cons => simp at hks
  | f :: fs, [], off, us, vs, r, hks, hf, hu, hv, h => by simp at hks
  | f :: fs, kb :: ks, off, us, vs, r, hks, hf, hu, hv, h => by
    cases us with
    | nil => cases kb <;> simp [eqAll] at h
    | cons u us =>
      obtain ⟨u', ru, e1, hu1, hu2⟩ := hu.uncons
      have hgx : xs[off]? = some u' := by
        have : (xs.toList.drop off)[0]? = some u' := by rw [e1]; rfl
        simpa using this
      have hrx : RL ρ us (xs.toList.drop (off + 1)) := by rw [← List.drop_drop, e1]; simpa using hu2
      cases vs with
      | nil => cases kb <;> cases u <;> simp [eqAll] at h
      | cons v vs =>
        obtain ⟨v', rv, e2, hv1, hv2⟩ := hv.uncons
        have hgy : ys[off]? = some v' := by
          have : (ys.toList.drop off)[0]? = some v' := by rw [e2]; rfl
          simpa using this
        have hry : RL ρ vs (ys.toList.drop (off + 1)) := by rw [← List.drop_drop, e2]; simpa using hv2
        have ih := fun r h => eqFields_ok d xs ys w fs ks (off + 1) us vs r (by simpa using hks) (fun i g b hg hb => by
          have := hf (i + 1) g b (by simpa using hg) (by simpa using hb)
          rwa [show off + (i + 1) = off + 1 + i by omega] at this) hrx hry h
        obtain ⟨hoff, hname, hi, hb⟩ := hf 0 f kb rfl rfl
        simp only [Nat.add_zero] at hoff
        cases kb with
        | true =>
          obtain ⟨k0, hk⟩ := hi rfl
          have hpx : (part f.type xs off).run P w = .ok u' w := by simp [part, isAgg, run_underlying hk, hgx]
          have hpy : (part f.type ys off).run P w = .ok v' w := by simp [part, isAgg, run_underlying hk, hgy]
          cases u <;> (try (simp [eqAll] at h; done))
          cases v <;> (try (simp [eqAll] at h; done))
          rename_i k n k' m
          obtain rfl := hu1.int_inv
          obtain rfl := hv1.int_inv
          simp only [eqAll] at h
          split at h
          · rename_i hkk; subst hkk
            simp only [Op.eqFields, ne_eq, hname, not_false_eq_true, if_true, Sem.run_bind, hoff, hpx, hpy, Result.andThen_ok, run_equalIn_int w d f.type k k0 n m hk]
            split at h
            · rename_i he
              simp only [he, Bool.not_true, Bool.false_eq_true, if_false]
              exact ih r h
            · rename_i he
              cases h
              simp at he
              simp [he]
          · cases h
        | false =>
          have hk := hb rfl
          have hpx : (part f.type xs off).run P w = .ok u' w := by simp [part, isAgg, run_underlying hk, hgx]
          have hpy : (part f.type ys off).run P w = .ok v' w := by simp [part, isAgg, run_underlying hk, hgy]
          cases u <;> (try (simp [eqAll] at h; done))
          cases v <;> (try (simp [eqAll] at h; done))
          rename_i b b'
          obtain rfl := hu1.bool_inv
          obtain rfl := hv1.bool_inv
          simp only [eqAll] at h
          simp only [Op.eqFields, ne_eq, hname, not_false_eq_true, if_true, Sem.run_bind, hoff, hpx, hpy, Result.andThen_ok, run_equalIn_bool w d f.type b b' hk]
          split at h
          · rename_i he
            simp only [he, Bool.not_true, Bool.false_eq_true, if_false]
            exact ih r h
          · rename_i he
            cases h
            simp at he
            simp [he]
end Go.Ar
