/- Each operation but a call: what the abstract run answers, the machine's operation answers. First half. -/
import Derived.Test.YtpojdgeginigjaaAr4
set_option linter.unusedSimpArgs false
set_option linter.unusedVariables false
namespace Go.Ar
open Go.RowKit

def NxOk (ρ : Rho) (nx : Next) (v : V) : Prop := (∃ v', nx = .value v' ∧ R ρ v v') ∨ (nx = .skip ∧ v = .undef)
def Res (P : Program) (B0 : Nat) (w0 : World) (D : List Nat) (ρ : Rho) (H : Heap) (w : World) (s : Sem Next) (v : V) (H' : Heap) : Prop :=
  ∃ nx w' ρ', s.run P w = .ok nx w' ∧ NxOk ρ' nx v ∧ Agree H.length ρ ρ' ∧ Sim P B0 w0 ρ' H' D w'

variable {P : Program} {B0 : Nat} {w0 : World} {ρ : Rho} {H : Heap} {D : List Nat} {w : World}

theorem Res.val {s : Sem Value} {v : V} {v' : Value} {w' : World} {ρ' : Rho} {H' : Heap} (hr : s.run P w = .ok v' w') (hR : R ρ' v v') (ha : Agree H.length ρ ρ') (hS : Sim P B0 w0 ρ' H' D w') :
    Res P B0 w0 D ρ H w (do pure (.value (← s))) v H' := ⟨.value v', w', ρ', by simp [hr], .inl ⟨v', rfl, hR⟩, ha, hS⟩
theorem Res.same {s : Sem Value} {v : V} {v' : Value} (hS : Sim P B0 w0 ρ H D w) (hr : s.run P w = .ok v' w) (hR : R ρ v v') :
    Res P B0 w0 D ρ H w (do pure (.value (← s))) v H := Res.val hr hR (Agree.refl _ _) hS
theorem Res.unit {s : Sem Unit} {w' : World} {H' : Heap} (hr : s.run P w = .ok () w') (hS : Sim P B0 w0 ρ H' D w') :
    Res P B0 w0 D ρ H w (do s; pure .skip) .undef H' := ⟨.skip, w', ρ, by simp [hr], .inr ⟨rfl, rfl⟩, Agree.refl _ _, hS⟩

/-! ### Types -/
theorem tsize_run {t : TypeId} {n : Nat} (h : tsize P t = some n) (w : World) : (sizeOf t).run P w = .ok n w := by
  unfold tsize at h
  cases hi : P.info? t with
  | none => simp [hi] at h
  | some i => simp [hi] at h; simp [sizeOf, typeInfo, hi, h]
theorem tagg_run {t : TypeId} {g : Bool} (h : tagg P t = some g) (w : World) : (isAgg t).run P w = .ok g w := by
  unfold tagg at h
  cases hu : P.underlying t with
  | none => simp [hu] at h
  | some d => cases d <;> simp [hu] at h <;> subst h <;> simp [isAgg, run_underlying hu]
theorem telem_u {t e : TypeId} (h : telem P t = some e) : P.underlying t = some (.slice e) := by
  unfold telem at h
  split at h
  · cases h; assumption
  · cases h
theorem telem_elem {t e : TypeId} (h : telem P t = some e) : P.underlying t = some (.slice (P.elem t)) ∧ P.elem t = e := by
  have hu := telem_u h
  have : P.elem t = e := by simp [Program.elem, hu]
  exact ⟨by rw [this]; exact hu, this⟩
theorem tzero_of {t : TypeId} {zs : List V} (h : tzero P t = some zs) : ∃ i z, P.info? t = some i ∧ i.zero = some z ∧ z.cells.size = i.size ∧ zs = z.cells.toList.map absS ∧ zs.all V.scalar = true := by
  unfold tzero at h
  split at h
  · rename_i i hi
    split at h
    · rename_i z hz
      split at h
      · rename_i hc; cases h; exact ⟨i, z, hi, hz, hc.1, rfl, hc.2⟩
      · cases h
    · cases h
  · cases h
theorem zero_RL (ρ : Rho) (z : Value) : RL ρ (z.cells.toList.map absS) z.cells.toList := by
  have := RL.map (ρ := ρ) (f := absS) (g := id) z.cells.toList (fun x _ => absS_ok ρ x)
  simpa using this
theorem tzero_run {t : TypeId} {i : TypeInfo} {z : Value} (hi : P.info? t = some i) (hz : i.zero = some z) (w : World) : (zeroValue t).run P w = .ok z w := by
  simp [zeroValue, typeInfo, hi, hz]

/-! ### New blocks -/
def newLoc (w : World) : Loc := ⟨w.heap.size, 0, .exact⟩
theorem Sim.newCells (hS : Sim P B0 w0 ρ H D w) {cs : List V} {cs' : Array Value} (h : RL ρ cs cs'.toList) (T : TypeId) :
    Sim P B0 w0 (ext ρ H.length (newLoc w)) (H ++ [.cells cs .ex]) D (w.alloc (.cells cs' T)) := by
  refine hS.new _ _ _ rfl fun _ => ⟨cs', T, (0, 0), World.alloc_heap_new w _, fun i v hv => ?_, hS.sizeLe, rfl, rfl, rfl, by rw [h.1]; simp⟩
  obtain ⟨v', h1, h2⟩ := h.get hv
  exact ⟨v', by simpa [newLoc] using h1, h2.mono (le_ext (hS.out _ (Nat.le_refl _)) _)⟩
theorem R.newPtr {n : Nat} {w : World} : R (ext ρ n (newLoc w)) (.ptr n 0) (.pointer (some ⟨w.heap.size, 0, none⟩)) := by
  have := @R.ptr (ext ρ n (newLoc w)) n 0 (newLoc w) (by simp [ext])
  simpa [newLoc] using this
theorem R.newSl {n len : Nat} {w : World} : R (ext ρ n (newLoc w)) (.sl n 0 len len) (.slice (some ⟨w.heap.size, 0, none⟩) len len) := by
  have := @R.sl (ext ρ n (newLoc w)) n 0 len len len (newLoc w) (by simp [ext]) rfl
  simpa [newLoc] using this

theorem run_newVar (t : TypeId) (v : Value) (w : World) : (newVar t v).run P w = .ok ⟨w.heap.size, 0, none⟩ (w.alloc (.cells v.cells t)) := by simp [newVar, newRow]
theorem run_newRow (t : TypeId) (cs : Array Value) (w : World) : (newRow t cs).run P w = .ok ⟨w.heap.size, 0, none⟩ (w.alloc (.cells cs t)) := by simp [newRow]

/-! ### Parts of a literal -/
theorem RL.wrc {l : List V} {l' : List Value} (h : RL ρ l l') : ∀ {vs : List V} {vs' : List Value} (o : Nat), RL ρ vs vs' → RL ρ (wrc l o vs) (wrc l' o vs') := by
  intro vs
  induction vs generalizing l l' with
  | nil => intro vs' o hv; have := hv.1; cases vs' with | nil => exact h | cons => simp at this
  | cons v vs ih =>
    intro vs' o hv
    obtain ⟨v', r, rfl, h1, h2⟩ := hv.uncons
    exact ih (h.set h1 o) (o + 1) h2
theorem foldl_zip (off : Nat) : ∀ (vs : List Value) (k : Nat) (c : Array Value), ((vs.zipIdx k).foldl (fun cs (p : Value × Nat) => cs.setIfInBounds (off + p.2) p.1) c).toList = wrc c.toList (off + k) vs
  | [], k, c => rfl
  | v :: vs, k, c => by
    simp only [List.zipIdx_cons, List.foldl_cons, wrc]
    rw [foldl_zip off vs (k + 1) _]
    simp [Nat.add_assoc]
theorem fill_ok (place : Nat → Option (Nat × Nat)) : ∀ (ps : List (Nat × Nat × V)) (ps' : List (Nat × Value)) (cs : List V) (cs' : Array Value) (r : List V), RL ρ cs cs'.toList →
    ps.length = ps'.length → (∀ (i : Nat) (p : Nat × Nat × V) (p' : Nat × Value), ps[i]? = some p → ps'[i]? = some p' → place p'.1 = some (p.1, p.2.1) ∧ R ρ p.2.2 p'.2) →
    fillc cs ps = some r → ∃ r', Instr.fill place cs' ps' = some r' ∧ RL ρ r r'.toList
  | [], ps', cs, cs', r, h, hl, hp, hf => by
    cases ps' with
    | nil => simp [fillc] at hf; subst hf; exact ⟨cs', rfl, h⟩
    | cons => simp at hl
  | p :: ps, [], cs, cs', r, h, hl, hp, hf => by simp at hl
  | (off, n, v) :: ps, (i, v') :: ps', cs, cs', r, h, hl, hp, hf => by
    obtain ⟨h1, h2⟩ := hp 0 _ _ rfl rfl
    simp only at h1 h2
    simp only [fillc] at hf
    cases hc : v.cells with
    | none => simp [hc] at hf
    | some vs =>
      simp only [hc] at hf
      split at hf
      · rename_i hn
        split at hf
        · rename_i hle
          have hv := h2.cellsOne hc
          have hsz : v'.cells.size = n := by have := hv.1; simp at this; omega
          have hcl : cs'.size = cs.length := by have := h.1; simp at this; omega
          have hnb : (decide (v'.cells.size ≠ n) || decide (off + v'.cells.size > cs'.size)) = false := by simp [hsz, hcl]; omega
          have hw : RL ρ (wrc cs off vs) (v'.cells.zipIdx.foldl (fun cs (p : Value × Nat) => cs.setIfInBounds (off + p.2) p.1) cs').toList := by
            have e : v'.cells.zipIdx.foldl (fun cs (p : Value × Nat) => cs.setIfInBounds (off + p.2) p.1) cs' = (v'.cells.toList.zipIdx 0).foldl (fun cs (p : Value × Nat) => cs.setIfInBounds (off + p.2) p.1) cs' := by
              rw [← Array.foldl_toList, Array.toList_zipIdx]
            rw [e, foldl_zip off _ 0 cs']
            exact h.wrc off hv
          obtain ⟨r', h3, h4⟩ := fill_ok place ps ps' _ _ r hw (by simpa using hl) (fun j q q' hq hq' => hp (j + 1) q q' (by simpa using hq) (by simpa using hq')) hf
          refine ⟨r', ?_, h4⟩
          simp only [Instr.fill, h1]
          rw [if_neg (by simpa using hnb)]
          exact h3
        · cases hf
      · cases hf

/-! ### The operations -/
variable {nt : Nat} {τ : Nat → V} {a : Act}

theorem op_alloc (hS : Sim P B0 w0 ρ H D w) {t : TypeId} {zs : List V} (hz : tzero P t = some zs) :
    Res P B0 w0 D ρ H w (do pure (.value (← Instr.alloc t true (.tuple #[])))) (.ptr H.length 0) (H ++ [.cells zs .ex]) := by
  obtain ⟨i, z, hi, hz', hs, rfl, _⟩ := tzero_of hz
  refine Res.val (v' := .pointer (some ⟨w.heap.size, 0, none⟩)) (w' := w.alloc (.cells z.cells t)) ?_ R.newPtr (agree_ext _ _ _) (hS.newCells (zero_RL ρ z) t)
  simp [Instr.alloc, tzero_run hi hz', run_newVar]

theorem op_box (hS : Sim P B0 w0 ρ H D w) {t : TypeId} {v : V} {v' : Value} (hv : R ρ v v') {cs : List V} (hc : v.cells = some cs) :
    Res P B0 w0 D ρ H w (do pure (.value (← Instr.box t v'))) (.ptr H.length 0) (H ++ [.cells cs .ex]) := by
  refine Res.val (v' := .pointer (some ⟨w.heap.size, 0, none⟩)) (w' := w.alloc (.cells v'.cells t)) ?_ R.newPtr (agree_ext _ _ _) (hS.newCells (hv.cellsOne hc) t)
  simp [Instr.box, run_newVar]

theorem op_load (hS : Sim P B0 w0 ρ H D w) {t : TypeId} {n : Nat} {g : Bool} (hn : tsize P t = some n) (hg : tagg P t = some g) {k o : Nat} {x' : Value} (hx : R ρ (.ptr k o) x') {v : V}
    (h : (if g then (rdn H k o n).map V.agg else rd H k o) = some v) : ∃ v', (Instr.loadAt t x').run P w = .ok v' w ∧ R ρ v v' := by
  cases hx with
  | ptr hL =>
    cases g with
    | true =>
      simp only [if_true, Option.map_eq_some_iff] at h
      obtain ⟨cs, h1, rfl⟩ := h
      obtain ⟨cs', h2, h3, h4⟩ := rdn_ok hS h1 hL
      have hl := run_loadCells_list (P := P) w _ cs' h4
      have : cs'.length = n := by have := h2.1; omega
      rw [this] at hl
      refine ⟨.agg cs'.toArray, ?_, R.ofAgg (by simpa using h2)⟩
      simp [Instr.loadAt, Instr.sureAddr, loadVar, tagg_run hg, tsize_run hn, hl]
    | false =>
      simp only [Bool.false_eq_true, if_false] at h
      obtain ⟨v', h1, h2⟩ := rd_ok hS h hL
      refine ⟨v', ?_, h2⟩
      simp [Instr.loadAt, Instr.sureAddr, loadVar, tagg_run hg, h1]

theorem op_store (hS : Sim P B0 w0 ρ H D w) {t : TypeId} {n : Nat} (hn : tsize P t = some n) {k o : Nat} {x' : Value} (hx : R ρ (.ptr k o) x') {v : V} {v' : Value} (hv : R ρ v v')
    {cs : List V} (hc : v.cells = some cs) (hl : cs.length = n) {H' : Heap} (h : wr H k o cs = some H') :
    Res P B0 w0 D ρ H w (do Instr.storeAt t x' v'; pure .skip) .undef H' := by
  cases hx with
  | ptr hL =>
    have hr := hv.cellsOne hc
    obtain ⟨w', h1, h2⟩ := wr_ok hS h hL hr
    refine Res.unit (w' := w') ?_ h2
    have : v'.cells.size = n := by have := hr.1; simp at this; omega
    simp [Instr.storeAt, Instr.sureAddr, storeVar, tsize_run hn, this, h1]

theorem mapM_some {α β : Type} {f : α → Option β} : ∀ {l : List α} {r : List β}, l.mapM f = some r → r.length = l.length ∧ ∀ (i : Nat) (x : α), l[i]? = some x → ∃ y, r[i]? = some y ∧ f x = some y
  | [], r, h => by simp at h; subst h; exact ⟨rfl, fun i x hx => by simp at hx⟩
  | x :: l, r, h => by
    simp only [List.mapM_cons, Option.bind_eq_bind, Option.bind_eq_some_iff] at h
    obtain ⟨y, hy, ys, hys, hr⟩ := h
    simp at hr; subst hr
    obtain ⟨h1, h2⟩ := mapM_some hys
    refine ⟨by simp [h1], fun i z hz => ?_⟩
    cases i with
    | zero => simp at hz; subst hz; exact ⟨y, rfl, hy⟩
    | succ i => exact h2 i z (by simpa using hz)

theorem run_places {fields : Array Field} {w : World} (h : ∀ f ∈ fields, ∃ n, tsize P f.type = some n) :
    ∃ ps, (fields.mapM fun (f : Field) => (do pure (f.offset, ← sizeOf f.type) : Sem (Nat × Nat))).run P w = .ok ps w ∧ ∀ (i : Nat) (f : Field) (n : Nat), fields[i]? = some f → tsize P f.type = some n → ps[i]? = some (f.offset, n) := by
  have key : ∀ (l : List Field), (∀ f ∈ l, ∃ n, tsize P f.type = some n) → ∃ ps : List (Nat × Nat), (l.mapM fun (f : Field) => (do pure (f.offset, ← sizeOf f.type) : Sem (Nat × Nat))).run P w = .ok ps w ∧ ∀ (i : Nat) (f : Field) (n : Nat), l[i]? = some f → tsize P f.type = some n → ps[i]? = some (f.offset, n) := by
    intro l
    induction l with
    | nil => exact fun _ => ⟨[], by simp, fun i f n hf => by simp at hf⟩
    | cons f l ih =>
      intro hl
      obtain ⟨n, hn⟩ := hl f (by simp)
      obtain ⟨ps, h1, h2⟩ := ih fun g hg => hl g (by simp [hg])
      refine ⟨(f.offset, n) :: ps, by simp only [List.mapM_cons, Sem.run_bind, Sem.run_pure, tsize_run hn, Result.andThen_ok, h1], fun i g m hg hm => ?_⟩
      cases i with
      | zero => simp at hg; subst hg; rw [hn] at hm; cases hm; rfl
      | succ i => exact h2 i g m (by simpa using hg) hm
  obtain ⟨ps, h1, h2⟩ := key fields.toList (by simpa using h)
  refine ⟨ps.toArray, ?_, fun i f n hf hn => by simpa using h2 i f n (by simpa using hf) hn⟩
  rw [Array.mapM_eq_mapM_toList, Sem.run_map, h1]
  rfl
end Go.Ar
