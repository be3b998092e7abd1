/- Each operation but a call: what the abstract run answers, the machine's operation answers. Third part: comparisons, slices, maps. -/
import Derived.Test.YtpojdgeginigjaaAr6
import Derived.WalkSpells
set_option linter.unusedSimpArgs false
set_option linter.unusedVariables false
namespace Go.Ar
open Go.RowKit
variable {P : Program} {B0 : Nat} {w0 : World} {ρ : Rho} {H : Heap} {D : List Nat} {w : World} {nt : Nat} {τ : Nat → V} {a : Act}

theorem flat_of {t : TypeId} {ks : List Bool} (h : flat P t = some ks) : ∃ fs : Array Field, P.underlying t = some (.struct fs) ∧ P.stoodInHeld t = false ∧ P.eqGuardType P.depth t = false ∧
    ks.length = fs.toList.length ∧ ∀ (i : Nat) (f : Field) (b : Bool), fs.toList[i]? = some f → ks[i]? = some b → f.offset = 0 + i ∧ f.name ≠ "_" ∧ (b = true → ∃ k, P.underlying f.type = some (.int k)) ∧ (b = false → P.underlying f.type = some .bool) := by
  unfold flat at h
  split at h
  · rename_i fs hu
    split at h
    · rename_i hc
      obtain ⟨h1, h2⟩ := mapM_some h
      refine ⟨fs, hu, hc.1, hc.2, by simpa using h1, fun i f b hf hb => ?_⟩
      have hz : fs.toList.zipIdx[i]? = some (f, i) := by rw [List.getElem?_zipIdx, hf]; simp
      obtain ⟨y, hy, hfy⟩ := h2 i (f, i) hz
      rw [hb] at hy; cases hy
      unfold flat1 at hfy
      split at hfy
      · rename_i hc2
        refine ⟨by simpa using hc2.1, hc2.2, ?_, ?_⟩
        · rintro rfl; split at hfy
          · exact ⟨_, by assumption⟩
          · cases hfy
          · cases hfy
        · rintro rfl; split at hfy
          · cases hfy
          · assumption
          · cases hfy
      · cases hfy
    · cases h
  · cases h

section small
variable (w : World) (d : Nat) {t : TypeId}
theorem eq_pp {e : TypeId} (h : P.underlying t = some (.pointer e)) : (Op.equalIn (d + 1) t (.pointer none) (.pointer none)).run P w = .ok true w := by simp [Op.equalIn, run_underlying h]
theorem eq_pa {e : TypeId} (h : P.underlying t = some (.pointer e)) (x : Addr) : (Op.equalIn (d + 1) t (.pointer none) (.pointer (some x))).run P w = .ok false w := by simp [Op.equalIn, run_underlying h]
theorem eq_ap {e : TypeId} (h : P.underlying t = some (.pointer e)) (x : Addr) : (Op.equalIn (d + 1) t (.pointer (some x)) (.pointer none)).run P w = .ok false w := by simp [Op.equalIn, run_underlying h]
theorem eq_ss {e : TypeId} (h : P.underlying t = some (.slice e)) : (Op.equalIn (d + 1) t (.slice none 0 0) (.slice none 0 0)).run P w = .ok true w := by simp [Op.equalIn, run_underlying h]
theorem eq_sa {e : TypeId} (h : P.underlying t = some (.slice e)) (x : Addr) (n c : Nat) : (Op.equalIn (d + 1) t (.slice none 0 0) (.slice (some x) n c)).run P w = .ok false w := by simp [Op.equalIn, run_underlying h]
theorem eq_as {e : TypeId} (h : P.underlying t = some (.slice e)) (x : Addr) (n c : Nat) : (Op.equalIn (d + 1) t (.slice (some x) n c) (.slice none 0 0)).run P w = .ok false w := by simp [Op.equalIn, run_underlying h]
theorem eq_ff {p r : Array TypeId} {v : Bool} (h : P.underlying t = some (.func p r v)) : (Op.equalIn (d + 1) t .nilFunc .nilFunc).run P w = .ok true w := by simp [Op.equalIn, run_underlying h]
theorem eq_fa {p r : Array TypeId} {v : Bool} (h : P.underlying t = some (.func p r v)) (f : Fn) (x y : Array Value) : (Op.equalIn (d + 1) t .nilFunc (.func f x y)).run P w = .ok false w := by simp [Op.equalIn, run_underlying h]
theorem eq_af {p r : Array TypeId} {v : Bool} (h : P.underlying t = some (.func p r v)) (f : Fn) (x y : Array Value) : (Op.equalIn (d + 1) t (.func f x y) .nilFunc).run P w = .ok false w := by simp [Op.equalIn, run_underlying h]
end small

theorem eqv_ok {t : TypeId} {ne : Bool} {e : EK} {x y : Operand} {x0 y0 : X} (hc : eqOp P t ne x0 y0 = .eq ne e x0 y0) {u v : V} {u' v' : Value} (hu : R ρ u u') (hv : R ρ v v') {r : Bool} (h : eqv e u v = some r) (w : World) :
    (eqGuard (cond ne .neq .eql) t x y u' v').run P w = .ok () w ∧ (Op.equal t u' v').run P w = .ok r w ∧
      (∀ k n, u' ≠ .int k n) ∧ (∀ s, u' ≠ .string s) ∧ (∀ k n, u' ≠ .float k n) ∧ (∀ k n m, u' ≠ .complex k n m) := by
  unfold eqOp at hc
  split at hc
  · rename_i hut
    cases hc
    cases hu <;> cases hv <;> (try (simp [eqv] at h; done))
    simp only [eqv, Option.some.injEq] at h; subst h
    exact ⟨eqGuard_run (by simp) (by simp), run_equal_bool w t _ _ hut, by simp, by simp, by simp, by simp⟩
  · rename_i p hut
    cases hc
    cases hu <;> cases hv <;> (try (simp [eqv] at h; done)) <;> (simp only [eqv, Option.some.injEq] at h; subst h) <;>
      refine ⟨eqGuard_run (by simp) (by simp), ?_, by simp, by simp, by simp, by simp⟩
    · exact eq_pp w 9999 hut
    · exact eq_pa w 9999 hut _
    · exact eq_ap w 9999 hut _
  · rename_i p hut
    cases hc
    cases hu <;> cases hv <;> (try (simp [eqv] at h; done)) <;> (simp only [eqv, Option.some.injEq] at h; subst h) <;>
      refine ⟨eqGuard_run (by simp) (by simp), ?_, by simp, by simp, by simp, by simp⟩
    · exact eq_ss w 9999 hut
    · exact eq_sa w 9999 hut _ _ _
    · exact eq_as w 9999 hut _ _ _
  · rename_i p q vr hut
    cases hc
    cases hu <;> cases hv <;> (try (simp [eqv] at h; done)) <;> (simp only [eqv, Option.some.injEq] at h; subst h) <;>
      refine ⟨eqGuard_run (by simp) (by simp), ?_, by simp, by simp, by simp, by simp⟩
    · exact eq_ff w 9999 hut
    · exact eq_fa w 9999 hut _ _ _
    · exact eq_af w 9999 hut _ _ _
  · rename_i p hut
    cases hf : flat P t with
    | none => simp [hf, optB] at hc
    | some ks =>
      simp only [hf, optB, I.eq.injEq, true_and, and_true] at hc
      subst hc
      obtain ⟨fs, hfs, hst, heg, hkl, hall⟩ := flat_of hf
      cases u <;> (try (simp [eqv] at h; done))
      cases v <;> (try (simp [eqv] at h; done))
      obtain ⟨us', rfl, hu2⟩ := hu.toAgg
      obtain ⟨vs', rfl, hv2⟩ := hv.toAgg
      simp only [eqv] at h
      have hfo : P.fieldsOf t = fs := by simp [Program.fieldsOf, hfs]
      refine ⟨?_, ?_, by simp, by simp, by simp, by simp⟩
      · cases ne <;> simp [eqGuard, heg]
      · have := run_equalIn_struct (P := P) w 9999 t us' vs' (by rw [hfo]; exact hfs) hst
        refine Eq.trans this ?_
        rw [hfo]
        exact eqFields_ok 9998 us' vs' w fs.toList ks 0 _ _ r hkl hall (by simpa using hu2) (by simpa using hv2) h
  · cases hc

theorem eqv_run {t : TypeId} {ne : Bool} {x y : Operand} {u' v' : Value} {r : Bool} (hg : (eqGuard (cond ne .neq .eql) t x y u' v').run P w = .ok () w) (he : (Op.equal t u' v').run P w = .ok r w)
    (n1 : ∀ k n, u' ≠ .int k n) (n2 : ∀ s, u' ≠ .string s) (n3 : ∀ k n, u' ≠ .float k n) (n4 : ∀ k n m, u' ≠ .complex k n m) :
    (do eqGuard (cond ne .neq .eql) t x y u' v'; binOp (cond ne .neq .eql) t u' v' : Sem Value).run P w = .ok (.bool (cond ne (!r) r)) w := by
  simp only [Sem.run_bind, hg, Result.andThen_ok]
  cases ne <;> cases u' <;> first | exact absurd rfl (n1 _ _) | exact absurd rfl (n2 _) | exact absurd rfl (n3 _ _) | exact absurd rfl (n4 _ _ _) | simp [binOp, he]

theorem op_mkfn (hτ : RT ρ nt τ a.tmps) (f : Nat) (x y : Array Operand) : R ρ (.fn f ((x.toList.map cX).map (ev τ)) ((y.toList.map cX).map (ev τ))) (.func (.func f) (x.map a.eval) (y.map a.eval)) := by
  have hl : ∀ z : Array Operand, RL ρ ((z.toList.map cX).map (ev τ)) (z.map a.eval).toList := fun z => by
    rw [List.map_map, Array.toList_map]
    exact RL.map _ fun o _ => ev_ok hτ o
  exact .fn (hl x).1 (hl y).1 (hl x).2 (hl y).2
theorem args_ok (hτ : RT ρ nt τ a.tmps) (x : Array Operand) : RL ρ ((x.toList.map cX).map (ev τ)) (x.map a.eval).toList := by
  rw [List.map_map, Array.toList_map]
  exact RL.map _ fun o _ => ev_ok hτ o

theorem op_mkslice (hS : Sim P B0 w0 ρ H D w) {t e : TypeId} (he : telem P t = some e) {i : TypeInfo} (hi : P.info? e = some i) (hsz : 0 < i.size) {zs : List V} (hz : tzero P e = some zs)
    {kk : IntKind} {n : Int} (h0 : 0 ≤ n) (h1 : n ≤ lim) (h2 : n * i.bytes ≤ 2 ^ 40) :
    ∃ cs' : Array Value, RL ρ (List.replicate n.toNat zs).flatten cs'.toList ∧ (Instr.makeSlice t (.int kk n) (.int kk n)).run P w = .ok (.slice (some ⟨w.heap.size, 0, none⟩) n.toNat n.toNat) (w.alloc (.cells cs' e)) := by
  obtain ⟨i', z, hi', hz', hs, rfl, _⟩ := tzero_of hz
  rw [hi] at hi'; cases hi'
  unfold lim at h1
  refine ⟨_, ?_, run_make w t e i z (telem_u he) hi hz' kk kk n n h0 (Int.le_refl _) (by rw [Int.mul_comm]; omega) (by omega)⟩
  have := madeCells_row z.cells (by omega) n.toNat
  rw [hs] at this
  rw [this]
  exact (zero_RL ρ z).flat _

theorem bounds_ok {lo hi : Option V} {lo' hi' : Option Value} (hlo : ∀ v, lo = some v → ∃ v', lo' = some v' ∧ R ρ v v') (hlo0 : lo = none → lo' = none) (hhi : ∀ v, hi = some v → ∃ v', hi' = some v' ∧ R ρ v v') (hhi0 : hi = none → hi' = none)
    {len cap : Nat} {l h : Int} (hh : hiOf len hi = some h) (hl : loOf lo = some l) (h0 : 0 ≤ l) (h1 : l ≤ h) (h2 : h ≤ cap) (w : World) :
    (Instr.sliceBounds true len cap lo' hi' none).run P w = .ok (l.toNat, h.toNat, cap) w := by
  have eh : (hi' = none ∧ h = len) ∨ ∃ k, hi' = some (.int k h) := by
    cases hi with
    | none => simp [hiOf] at hh; exact .inl ⟨hhi0 rfl, hh.symm⟩
    | some u =>
      obtain ⟨u', e1, hr⟩ := hhi u rfl
      cases u <;> simp [hiOf] at hh
      subst hh
      obtain rfl := hr.int_inv
      exact .inr ⟨_, e1⟩
  have el : (lo' = none ∧ l = 0) ∨ ∃ k, lo' = some (.int k l) := by
    cases lo with
    | none => simp [loOf] at hl; exact .inl ⟨hlo0 rfl, hl.symm⟩
    | some u =>
      obtain ⟨u', e1, hr⟩ := hlo u rfl
      cases u <;> simp [loOf] at hl
      subst hl
      obtain rfl := hr.int_inv
      exact .inr ⟨_, e1⟩
  have hb1 : ∀ k, (Instr.sliceBound (.int k h) cap .sliceAcap).run P w = .ok h.toNat w := fun k => run_sliceBound w _ _ _ _ (by omega) h2
  have hb2 : ∀ k, (Instr.sliceBound (.int k l) h.toNat .sliceB).run P w = .ok l.toNat w := fun k => run_sliceBound w _ _ _ _ h0 (by omega)
  rcases eh with ⟨rfl, e1⟩ | ⟨k, rfl⟩ <;> rcases el with ⟨rfl, e2⟩ | ⟨k', rfl⟩
  · subst e1; subst e2; simp [Instr.sliceBounds]
  · subst e1
    simp only [Int.toNat_natCast] at hb2
    simp [Instr.sliceBounds, hb2]
  · subst e2; simp [Instr.sliceBounds, hb1]
  · simp [Instr.sliceBounds, hb1, hb2]

theorem op_slc (hS : Sim P B0 w0 ρ H D w) {t e : TypeId} (he : telem P t = some e) {n : Nat} (hn : tsize P e = some n) {x : V} {x' : Value} (hx : R ρ x x') {lo hi : Option V} {lo' hi' : Option Value}
    (hlo : ∀ v, lo = some v → ∃ v', lo' = some v' ∧ R ρ v v') (hlo0 : lo = none → lo' = none) (hhi : ∀ v, hi = some v → ∃ v', hi' = some v' ∧ R ρ v v') (hhi0 : hi = none → hi' = none) {v : V}
    (h : slcv H n x lo hi = some v) : ∃ v', (Instr.sliceAt t x' lo' hi' none).run P w = .ok v' w ∧ R ρ v v' := by
  have hel := telem_elem he
  have hrun : ∀ (b : Option Addr) (len cap : Nat) (l h : Int), (Instr.sliceBounds true len cap lo' hi' none).run P w = .ok (l.toNat, h.toNat, cap) w →
      (Instr.sliceAt t (.slice b len cap) lo' hi' none).run P w = .ok (.slice (if cap = l.toNat then b else b.map (·.add (l.toNat * n))) (h.toNat - l.toNat) (cap - l.toNat)) w := by
    intro b len cap l h hb
    rw [run_sliceAt_slice w t _ _ _ _ hel.1, run_slice_any w t b len cap hel.1, hb]
    simp only [Result.andThen_ok, hel.2, tsize_run hn, sliced]
  cases hx with
  | sl hL hc =>
    rename_i k o len cap cap' L
    simp only [slcv] at h
    split at h
    · rename_i hv lv e1 e2
      split at h
      · rename_i hle
        obtain ⟨h0, h1, h2⟩ := hle
        have hcc : cap ≤ cap' := by
          revert hc; unfold capOk; split
          · exact id
          · intro hc; omega
          · exact fun hc => hc.1
        have hb := bounds_ok (P := P) hlo hlo0 hhi hhi0 e1 e2 h0 h1 (show hv ≤ (cap' : Int) by omega) w
        have hr := hrun (some ⟨L.blk, L.base + o, none⟩) len cap' lv hv hb
        refine ⟨_, hr, ?_⟩
        have hmv : ∀ (hlt : lv.toNat ≠ cap') (hcap : capOk L.kd (o + lv.toNat * n) (cap - lv.toNat) (cap' - lv.toNat)),
            R ρ (.sl k (o + lv.toNat * n) (hv.toNat - lv.toNat) (cap - lv.toNat)) (.slice (if cap' = lv.toNat then some ⟨L.blk, L.base + o, none⟩ else (some (⟨L.blk, L.base + o, none⟩ : Addr)).map (·.add (lv.toNat * n))) (hv.toNat - lv.toNat) (cap' - lv.toNat)) := by
          intro hlt hcap
          rw [if_neg (fun e => hlt e.symm)]
          simp only [Option.map_some, add_at]
          have := @R.sl ρ k (o + lv.toNat * n) (hv.toNat - lv.toNat) (cap - lv.toNat) (cap' - lv.toNat) L hL hcap
          simpa [Nat.add_assoc] using this
        have hmoved : (lv.toNat ≠ 0 → lv.toNat < cap → capOk L.kd (o + lv.toNat * n) (cap - lv.toNat) (cap' - lv.toNat)) →
            R ρ (moved k o n len cap lv.toNat hv.toNat) (.slice (if cap' = lv.toNat then some ⟨L.blk, L.base + o, none⟩ else (some (⟨L.blk, L.base + o, none⟩ : Addr)).map (·.add (lv.toNat * n))) (hv.toNat - lv.toNat) (cap' - lv.toNat)) := by
          intro hcap
          unfold moved
          split
          · rename_i hz
            have e0 : (if cap' = lv.toNat then some (⟨L.blk, L.base + o, none⟩ : Addr) else (some (⟨L.blk, L.base + o, none⟩ : Addr)).map (·.add (lv.toNat * n))) = some ⟨L.blk, L.base + o, none⟩ := by
              split
              · rfl
              · simp [add_at, hz]
            rw [e0, hz]
            simpa using @R.sl ρ k o hv.toNat cap cap' L hL hc
          · split
            · exact hmv (by omega) (hcap (by omega) (by omega))
            · rw [show hv.toNat - lv.toNat = 0 by omega]; exact .es _ _
        have hloose : (∀ es sz, L.kd ≠ .grow es sz) → lv.toNat ≠ 0 → lv.toNat < cap → capOk L.kd (o + lv.toNat * n) (cap - lv.toNat) (cap' - lv.toNat) := by
          intro hk _ _
          cases hkd : L.kd with
          | loose => simp only [capOk]; omega
          | exact => rw [hkd] at hc; simp only [capOk] at hc ⊢; omega
          | grow es sz => exact absurd hkd (hk _ _)
        have hgrow : ∀ sz, L.kd = .grow n sz → lv.toNat ≠ 0 → lv.toNat < cap → capOk L.kd (o + lv.toNat * n) (cap - lv.toNat) (cap' - lv.toNat) := by
          intro sz hkd _ hlt
          rw [hkd] at hc ⊢
          obtain ⟨hc1, hc2⟩ := hc
          refine ⟨by omega, ?_⟩
          have e1 : (cap' - lv.toNat) * n = cap' * n - lv.toNat * n := Nat.sub_mul _ _ _
          have e2 : lv.toNat * n ≤ cap' * n := Nat.mul_le_mul_right _ (by omega)
          omega
        cases hk : H[k]? with
        | none => simp [hk] at h
        | some b =>
          cases b with
          | dead => simp [hk] at h
          | mp es => simp [hk] at h
          | lp _ _ _ _ _ => simp [hk] at h
          | cells cs m =>
            obtain ⟨L', hL', hbk⟩ := hS.blk k _ hk rfl
            rw [hL] at hL'; cases hL'
            obtain ⟨c, T, fr, _, _, hm⟩ := hbk
            cases m with
            | ro =>
              simp only [hk, Option.some.injEq] at h
              subst h
              exact hmoved (hloose hm)
            | rg es =>
              simp only [hk] at h
              split at h
              · rename_i hes'; subst hes'
                cases h
                exact hmoved (hgrow _ hm)
              · cases h
            | ex =>
              simp only [hk] at h
              have hkd : L.kd = .exact := hm.2.2.2.1
              rw [hkd] at hc
              have hce : cap' = cap := hc
              subst hce
              split at h
              · rename_i hlc
                cases h
                have : cap' = lv.toNat := by omega
                rw [if_pos this, show hv.toNat - lv.toNat = 0 by omega, show cap' - lv.toNat = 0 by omega]
                exact @R.sl ρ k o 0 0 0 L hL (by rw [hkd]; exact rfl)
              · cases h
                exact hmv (by omega) (by rw [hkd]; exact rfl)
            | gr es =>
              simp only [hk] at h
              split at h
              · rename_i hes'; subst hes'
                cases h
                exact hmoved (hgrow _ hm.2.2.2)
              · cases h
      · cases h
    · cases h
  | nils =>
    simp only [slcv] at h
    split at h
    · rename_i hv lv e1 e2
      split at h
      · rename_i hle
        obtain ⟨rfl, rfl⟩ := hle
        cases h
        have hb := bounds_ok (P := P) hlo hlo0 hhi hhi0 e1 e2 (Int.le_refl _) (Int.le_refl _) (show (0 : Int) ≤ ((0 : Nat) : Int) by omega) w
        exact ⟨_, hrun none 0 0 0 0 hb, by simpa using R.nils⟩
      · cases h
    · cases h
  | es b c' =>
    simp only [slcv] at h
    split at h
    · rename_i hv lv e1 e2
      split at h
      · rename_i hle
        obtain ⟨rfl, rfl⟩ := hle
        cases h
        have hb := bounds_ok (P := P) hlo hlo0 hhi hhi0 e1 e2 (Int.le_refl _) (Int.le_refl _) (show (0 : Int) ≤ (c' : Int) by omega) w
        exact ⟨_, hrun b 0 c' 0 0 hb, by simpa using R.es _ _⟩
      · cases h
    · cases h
  | _ => simp [slcv] at h
end Go.Ar
