/- Arguments, all of a row opened: cells, slices, structs of such. -/
import Derived.Test.YtpojdgeginigjaaAr26
set_option linter.unusedSimpArgs false
set_option linter.unusedVariables false
namespace Go.Ar
open Go.RowKit Go.WideShapes Go.ChangeShapes
variable {Hd : Type} {enc : TypeId × Value → Hd} {P : Program}

/-- What one cell may be: a number or a bool; a slice of flat things. -/
inductive CK where
  | k (e : KE)
  | s (ks : List KE)
def CK.ok (H : Heap) : CK → V → Prop
  | .k e, u => e.ok u
  | .s ks, u => SlOk ks H u
def ckOf (P : Program) (t : TypeId) : Option CK :=
  match P.underlying t with
  | some (.int q) => some (.k (.int q))
  | some .bool => some (.k .bool)
  | some (.slice e) => match flatT P e with
    | some ks => if P.cellsOf e = ks.length then some (.s ks) else none
    | none => none
  | _ => none
inductive AK where
  | c (q : CK)
  | st (qs : List CK)
def cksOk (H : Heap) : List CK → List V → Prop
  | [], [] => True
  | c :: cs, u :: us => c.ok H u ∧ cksOk H cs us
  | _, _ => False
def AK.ok (H : Heap) : AK → V → Prop
  | .c q, u => q.ok H u
  | .st qs, u => ∃ us, u = .agg us ∧ cksOk H qs us
def okAll (H : Heap) : List AK → List V → Prop
  | [], [] => True
  | a :: ys, u :: us => a.ok H u ∧ okAll H ys us
  | _, _ => False
def fieldsOf (P : Program) : List Field → Nat → Option (List CK)
  | [], _ => some []
  | f :: fs, i => if f.offset = i ∧ P.cellsOf f.type = 1 then (match ckOf P f.type, fieldsOf P fs (i + 1) with | some k, some ks => some (k :: ks) | _, _ => none) else none
def akOf (P : Program) (t : TypeId) : Option AK :=
  match P.underlying t with
  | some (.struct fs) => if P.cellsOf t = fs.size ∧ P.cellTypes P.depth t = some (fs.toList.map (·.type)) then (fieldsOf P fs.toList 0).map .st else none
  | some (.array _ _) => none
  | _ => (ckOf P t).map .c
def aksOf (P : Program) : List TypeId → Option (List AK)
  | [] => some []
  | t :: ts => match akOf P t, aksOf P ts with | some a, some ys => some (a :: ys) | _, _ => none

theorem SlOk.mono {ks : List KE} {H H' : Heap} {u : V} (h : SlOk ks H u) : SlOk ks (H ++ H') u := by
  rcases h with rfl | ⟨k, len, cs, rfl, hk, hl, hm, hx⟩
  · exact .inl rfl
  · exact .inr ⟨k, len, cs, rfl, by rw [List.getElem?_append_left (List.getElem?_eq_some_iff.1 hk).1]; exact hk, hl, hm, hx⟩
theorem CK.mono {H H' : Heap} {u : V} : ∀ {c : CK}, c.ok H u → c.ok (H ++ H') u
  | .k _, h => h
  | .s _, h => SlOk.mono h
theorem cksOk.mono {H H' : Heap} : ∀ {cs : List CK} {us : List V}, cksOk H cs us → cksOk (H ++ H') cs us
  | [], [], _ => trivial
  | _ :: _, _ :: _, h => ⟨CK.mono h.1, cksOk.mono h.2⟩
theorem AK.mono {H H' : Heap} {u : V} : ∀ {c : AK}, c.ok H u → c.ok (H ++ H') u
  | .c _, h => CK.mono h
  | .st _, ⟨us, h1, h2⟩ => ⟨us, h1, h2.mono⟩

variable {w : World}

theorem ke1_of {t : TypeId} {k : KE} (h : ckOf P t = some (.k k)) : ke1 P t = some k := by
  unfold ckOf at h
  unfold ke1
  split at h <;> (try split at h) <;> (try split at h) <;> simp_all

theorem open_cell {base : Nat} {sp : Nat → Bool} {held : Bool} {ρ : Rho} {H : Heap} (hS : Sim P w.heap.size w ρ H [] w) {t : TypeId} {c : CK} (hc : ckOf P t = some c) {r : Reach} {b0 : Nat} {v : Value}
    (hok : Cell.okWide P w r b0 t v) {fuel : Nat} {x : DataW Hd × List MemPlace} (h : DataW.trod enc P w base sp held fuel t [v] = some x) :
    ∃ (ρ' : Rho) (H' : Heap) (u : V), Sim P w.heap.size w ρ' (H ++ H') [] w ∧ RLe ρ ρ' ∧ R ρ' u v ∧ c.ok (H ++ H') u := by
  cases c with
  | k e =>
    obtain ⟨v', h1, h2⟩ := ke1_open (ke1_of hc) h
    cases h1
    refine ⟨ρ, [], absS v, by simpa using hS, fun _ _ h => h, ?_, by simpa [CK.ok] using KE.absS h2⟩
    exact absS_ok _ _
  | s ks =>
    unfold ckOf at hc
    split at hc
    · cases hc
    · cases hc
    · rename_i e he
      split at hc
      case h_2 => cases hc
      rename_i ks' hks
      split at hc
      case isFalse => cases hc
      rename_i hlen
      cases hc
      obtain ⟨ρ', H', u, h1, h2, h3, h4, _⟩ := open_slice hS he hks hlen hok h
      exact ⟨ρ', H', u, h1, h2, h3, h4⟩
    · cases hc

theorem open_cells {base : Nat} {sp : Nat → Bool} {held : Bool} {r : Reach} {b0 : Nat} : ∀ {ts : List TypeId} {qs : List CK} {cs : List Value} {ρ : Rho} {H : Heap}, Sim P w.heap.size w ρ H [] w → ts.length = qs.length → cs.length = qs.length →
    (∀ (i : Nat) t v, ts[i]? = some t → cs[i]? = some v → Cell.okWide P w r b0 t v ∧ ∃ fuel x, DataW.trod enc P w base sp held fuel t [v] = some x) → (∀ (i : Nat) t, ts[i]? = some t → ∃ q, qs[i]? = some q ∧ ckOf P t = some q) →
    ∃ (ρ' : Rho) (H' : Heap) (us : List V), Sim P w.heap.size w ρ' (H ++ H') [] w ∧ RLe ρ ρ' ∧ RL ρ' us cs ∧ cksOk (H ++ H') qs us
  | [], [], [], ρ, H, hS, _, _, _, _ => ⟨ρ, [], [], by simpa using hS, fun _ _ h => h, RL.nil _, trivial⟩
  | t :: ts, q :: qs, v :: cs, ρ, H, hS, hl1, hl2, hv, hq => by
    obtain ⟨hok, fuel, x, hx⟩ := hv 0 t v rfl rfl
    obtain ⟨q', hq1, hq2⟩ := hq 0 t rfl
    simp at hq1; subst hq1
    obtain ⟨ρ1, H1, u, a1, a2, a3, a4⟩ := open_cell hS hq2 hok hx
    obtain ⟨ρ2, H2, us, b1, b2, b3, b4⟩ := open_cells (ts := ts) (qs := qs) (cs := cs) a1 (by simpa using hl1) (by simpa using hl2) (fun i t v h1 h2 => hv (i + 1) t v (by simpa using h1) (by simpa using h2)) (fun i t h => by simpa using hq (i + 1) t (by simpa using h))
    refine ⟨ρ2, H1 ++ H2, u :: us, by simpa using b1, fun _ _ h => b2 _ _ (a2 _ _ h), RL.cons (a3.mono b2) b3, ?_, by simpa using b4⟩
    have := CK.mono a4 (H' := H2)
    simpa using this
  | [], _ :: _, _, _, _, _, h, _, _, _ => by simp at h
  | _ :: _, [], _, _, _, _, h, _, _, _ => by simp at h
  | _, [], _ :: _, _, _, _, _, h, _, _ => by simp at h
  | _, _ :: _, [], _, _, _, _, h, _, _ => by simp at h

theorem fieldsOf_get : ∀ {fs : List Field} {i : Nat} {ks : List CK}, fieldsOf P fs i = some ks → ks.length = fs.length ∧ ∀ (j : Nat) (f : Field), fs[j]? = some f → f.offset = i + j ∧ P.cellsOf f.type = 1 ∧ ∃ k, ks[j]? = some k ∧ ckOf P f.type = some k
  | [], i, ks, h => by cases h; exact ⟨rfl, fun j f h => by simp at h⟩
  | f :: fs, i, ks, h => by
    simp only [fieldsOf] at h
    split at h
    case isFalse => cases h
    rename_i hc
    split at h
    case h_2 => cases h
    rename_i k ks' h1 h2
    cases h
    obtain ⟨h3, h4⟩ := fieldsOf_get h2
    refine ⟨by simp [h3], fun j g hg => ?_⟩
    cases j with
    | zero => simp at hg; subst hg; exact ⟨by simpa using hc.1, hc.2, k, rfl, h1⟩
    | succ j =>
      simp at hg
      obtain ⟨a, b, c, d, e⟩ := h4 j g hg
      exact ⟨by omega, b, c, by simpa using d, e⟩

theorem open_arg {base : Nat} {sp : Nat → Bool} {held : Bool} {ρ : Rho} {H : Heap} (hS : Sim P w.heap.size w ρ H [] w) {t : TypeId} {a : AK} (ha : akOf P t = some a) {r : Reach} {b0 : Nat} {v : Value} {d : DataW Hd} {ps : List MemPlace}
    (hok : Value.okWide P w r b0 t v) (h : DataW.Trod enc P w base sp held t v d ps) :
    ∃ (ρ' : Rho) (H' : Heap) (u : V), Sim P w.heap.size w ρ' (H ++ H') [] w ∧ RLe ρ ρ' ∧ R ρ' u v ∧ a.ok (H ++ H') u := by
  obtain ⟨fuel, h⟩ := h
  unfold akOf at ha
  split at ha
  · rename_i fs hu
    split at ha
    case isFalse => cases ha
    rename_i hc
    obtain ⟨hc1, hc2⟩ := hc
    simp only [Option.map_eq_some_iff] at ha
    obtain ⟨qs, hqs, rfl⟩ := ha
    obtain ⟨hl, hg⟩ := fieldsOf_get hqs
    unfold Value.okWide at hok
    rw [hu] at hok
    obtain ⟨cs, rfl, hcs, ts, hts, hmul, hrow⟩ := hok
    rw [hc2] at hts
    cases hts
    obtain ⟨xs, n, _, _, hlen, hxl, hx⟩ := DataW.trod_struct hu h
    have hcl : cs.toList.length = qs.length := by rw [hl]; simp; omega
    have hlen' : cs.size = fs.size := by omega
    obtain ⟨ρ', H', us, b1, b2, b3, b4⟩ := open_cells (enc := enc) (base := base) (sp := sp) (held := held) (r := r) (b0 := b0) (ts := fs.toList.map (·.type)) (qs := qs) (cs := cs.toList) hS (by simp [hl]) hcl (fun i t v h1 h2 => by
      rw [List.getElem?_map, Option.map_eq_some_iff] at h1
      obtain ⟨f, hf, rfl⟩ := h1
      obtain ⟨g1, g2, k, g3, g4⟩ := hg i f hf
      have hi : i < fs.size := by have := (List.getElem?_eq_some_iff.1 hf).1; simpa using this
      refine ⟨?_, n, ?_⟩
      · obtain ⟨u, hu1, hu2⟩ := hrow i v (by simpa using h2)
        simp only [List.length_map, Array.length_toList] at hu1
        rw [Nat.mod_eq_of_lt hi, List.getElem?_map, hf] at hu1
        simp at hu1; subst hu1
        exact hu2
      · have hxi := hx i f (by simpa using hf)
        have : ((cs.toList.drop f.offset).take (P.cellsOf f.type)) = [v] := by
          rw [g1, g2, Nat.zero_add]
          have hi2 := (List.getElem?_eq_some_iff.1 h2)
          obtain ⟨hi3, hi4⟩ := hi2
          rw [List.drop_eq_getElem_cons hi3, hi4]
          rfl
        have hcc : (Value.agg cs).cells.toList = cs.toList := rfl
        rw [hcc, this] at hxi
        rw [hxi]
        exact ⟨xs[i]'(by omega), List.getElem?_eq_getElem _⟩) (fun i t h1 => by
      rw [List.getElem?_map, Option.map_eq_some_iff] at h1
      obtain ⟨f, hf, rfl⟩ := h1
      obtain ⟨g1, g2, k, g3, g4⟩ := hg i f hf
      exact ⟨k, g3, g4⟩)
    exact ⟨ρ', H', .agg us, b1, b2, R.agg b3.1 b3.2, us, rfl, b4⟩
  · cases ha
  · rename_i h1 h2
    simp only [Option.map_eq_some_iff] at ha
    obtain ⟨c, hc, rfl⟩ := ha
    have hok' : Cell.okWide P w r b0 t v := okWide_cell hok (by
      split
      · rename_i fs hf; exact absurd hf (h1 fs)
      · rename_i a b hf; exact absurd hf (h2 a b)
      · rfl)
    have hv : v.cells.toList = [v] := by
      unfold ckOf at hc
      cases v <;> first | rfl | skip
      all_goals
        exfalso
        rename_i cs
        simp only [Cell.okWide] at hok'
        split at hc
        · rename_i q hu; rw [hu] at hok'; simp [Cell.ok, hu] at hok'
        · rename_i hu; rw [hu] at hok'; simp [Cell.ok, hu] at hok'
        · rename_i e hu; rw [hu] at hok'; simp [Cell.ok, hu] at hok'
        · cases hc
    rw [hv] at h
    exact open_cell hS hc hok' h

theorem open_args {base : Nat} {sp : Nat → Bool} {held : Bool} {r : Reach} {b0 : Nat} : ∀ {ts : List TypeId} {ys : List AK} {vs : List Value} {ds : List (DataW Hd)} {ps : List MemPlace} {ρ : Rho} {H : Heap}, Sim P w.heap.size w ρ H [] w → aksOf P ts = some ys →
    (∀ (i : Nat) t v, ts[i]? = some t → vs[i]? = some v → Value.okWide P w r b0 t v) → DataW.TrodAll enc P w base sp held ts vs ds ps →
    ∃ (ρ' : Rho) (H' : Heap) (us : List V), Sim P w.heap.size w ρ' (H ++ H') [] w ∧ RLe ρ ρ' ∧ RL ρ' us vs ∧ okAll (H ++ H') ys us
  | [], ys, vs, ds, ps, ρ, H, hS, ha, _, h => by
    cases ha
    obtain ⟨rfl, rfl, rfl⟩ := trodAll_nil h
    exact ⟨ρ, [], [], by simpa using hS, fun _ _ h => h, RL.nil _, trivial⟩
  | t :: ts, ys, vs, ds, ps, ρ, H, hS, ha, hv, h => by
    obtain ⟨v, vs', d, ds', p, q, rfl, rfl, rfl, h1, h2⟩ := trodAll_cons h
    simp only [aksOf] at ha
    split at ha
    case h_2 => cases ha
    rename_i a ys' e1 e2
    cases ha
    obtain ⟨ρ1, H1, u, a1, a2, a3, a4⟩ := open_arg hS e1 (hv 0 t v rfl rfl) h1
    obtain ⟨ρ2, H2, us, b1, b2, b3, b4⟩ := open_args a1 e2 (fun i t v h1 h2 => hv (i + 1) t v (by simpa using h1) (by simpa using h2)) h2
    refine ⟨ρ2, H1 ++ H2, u :: us, by simpa using b1, fun _ _ h => b2 _ _ (a2 _ _ h), RL.cons (a3.mono b2) b3, ?_, by simpa using b4⟩
    have := AK.mono a4 (H' := H2)
    simpa using this

/-- A law, over whatever is handed in. -/
def Law (P : Program) (E : Env) (g : Nat) (ts : List TypeId) : Prop := ∃ ys, aksOf P ts = some ys ∧ ∀ H us, okAll H ys us → ∃ v H', callL E (.f g) us H = some (v, H') ∧ v = .bool true
theorem law_walk (hm : P.follows .mixedOrders = true) {E : Env} (hE : EnvOk P E) {g : Nat} {ts : List TypeId} (hl : Law P E g ts) {W : World} {r : Reach} {b0 base : Nat} {sp : Nat → Bool} {held : Bool} {args : Array Value} {ds : List (DataW Hd)} {ps : List MemPlace}
    (hv : ∀ (i : Nat) t v, ts[i]? = some t → args[i]? = some v → Value.okWide P W r b0 t v) (h : DataW.TrodAll enc P W base sp held ts args.toList ds ps) :
    Calls P g args W fun e W' => e = .returned (.bool true) ∧ Below W.heap.size W W' := by
  obtain ⟨ys, ha, hlaw⟩ := hl
  obtain ⟨ρ, H, us, a1, _, a3, a4⟩ := open_args (Sim.empty W) ha (fun i t v h1 h2 => hv i t v h1 (by simpa using h2)) h
  obtain ⟨v, H', hc, rfl⟩ := hlaw _ _ a4
  exact walk_of hm hE hc a1 a3
end Go.Ar
