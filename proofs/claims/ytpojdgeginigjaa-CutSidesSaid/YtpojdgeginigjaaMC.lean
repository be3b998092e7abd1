/- The functions of a loaded program, as the abstract run has them; a function of no arguments that answers true, as a summary. -/
import Derived.Test.YtpojdgeginigjaaMB
import Derived.ProofKit
import Derived.ChangeArms
import Derived.OpenShut
import Derived.Carry
import Derived.ChangeOld
set_option linter.unusedSimpArgs false
set_option linter.unusedVariables false
namespace Go.Ar
open Go.RowKit

def codeOf (P : Program) (g : Nat) : Option FC :=
  match P.funcs[g]? with
  | some fn => if fn.name == "runtime.NumGoroutine" then none else compF P fn
  | none => none
def env0 (P : Program) : Env := ⟨codeOf P, fun _ => none⟩
/-- Function k answers true, and does nothing that is seen. -/
def yes (k : Nat) : Nat → Option (List V → Heap → Option (V × Heap)) := fun g => if g = k then some fun args H => (match args with | [] => some (.bool true, H) | _ => none) else none
def envY (P : Program) (k : Nat) : Env := ⟨codeOf P, yes k⟩

theorem codeOf_ok {P : Program} (g : Nat) (fc : FC) (h : codeOf P g = some fc) : ∃ fn, P.funcs[g]? = some fn ∧ compF P fn = some fc ∧ (fn.name == "runtime.NumGoroutine") = false := by
  unfold codeOf at h
  split at h
  · rename_i fn hf
    split at h
    · cases h
    · rename_i hn; exact ⟨fn, hf, h, by simpa using hn⟩
  · cases h
theorem env0_ok (P : Program) : EnvOk P (env0 P) := ⟨codeOf_ok, fun g h args H v H' hs => by cases hs⟩

variable {P : Program} {B0 : Nat} {w0 : World} {ρ : Rho} {H : Heap} {D : List Nat} {w : World}

theorem Sim.empty (w : World) : Sim P w.heap.size w (fun _ => none) [] [] w :=
  ⟨fun _ _ => rfl, Nat.le_refl _, Below.refl _ _, fun k b h => by simp at h, fun k k' b b' L L' _ h => by simp at h, fun r h => by cases h⟩

theorem Sim.below (hS : Sim P B0 w0 ρ H D w) {w' : World} (hb : Below w.heap.size w w') : Sim P B0 w0 ρ H D w' := by
  refine ⟨hS.out, hS.base, hS.low.trans (hb.mono hS.sizeLe), fun k b hk hl => ?_, hS.sep, fun r hr => ?_⟩
  · obtain ⟨L, h1, h2⟩ := hS.blk k b hk hl
    exact ⟨L, h1, h2.heap (hb.block _ (h2.lt hl))⟩
  · obtain ⟨h1, h2⟩ := hS.dfr r hr
    exact ⟨h1, (hb.block r (Array.getElem?_eq_some_iff.1 h2).1).trans h2⟩

theorem envY_ok (hm : P.follows .mixedOrders = true) {k n : Nat} {H1 : Heap} (h : callN (env0 P) n (.f k) [] [] = some (.bool true, H1)) : EnvOk P (envY P k) := by
  refine ⟨codeOf_ok, fun g f args H v H' hs hf => ?_⟩
  unfold envY yes at hs
  simp only at hs
  split at hs
  case isFalse => cases hs
  rename_i hg
  subst hg
  cases hs
  dsimp only at hf
  split at hf
  case h_2 => cases hf
  cases hf
  obtain ⟨h1, h2⟩ := (callN_ok hm (env0_ok P) n).f h
  refine ⟨h1, Grow.refl _, fun {B0 w0 ρ D w args'} hD hS hR ro j => ?_⟩
  have ha : args'.toList = [] := List.eq_nil_of_length_eq_zero (by rw [← hR.1]; rfl)
  refine (h2 List.nodup_nil (Sim.empty w) (by rw [ha]; exact RL.nil _) ro j).mono fun e w' hp => ?_
  obtain ⟨v', rfl, ρ', hv, _, hS'⟩ := hp
  rw [hv.bool_inv]
  exact ⟨_, rfl, ρ, R.bool _, Agree.refl _ _, hS.below hS'.low⟩
end Go.Ar
/- Arguments, opened: numbers, bools, slices of such or of structs of such. -/
set_option linter.unusedSimpArgs false
set_option linter.unusedVariables false
namespace Go.Ar
open Go.RowKit Go.WideShapes Go.ChangeShapes

inductive KE where
  | int (k : IntKind)
  | bool
def KE.ok : KE → V → Prop
  | .int k, u => ∃ n, u = .int k n ∧ k.min ≤ n ∧ n ≤ k.max
  | .bool, u => ∃ b, u = .bool b
def KE.okV : KE → Value → Prop
  | .int k, u => ∃ n, u = .int k n ∧ k.min ≤ n ∧ n ≤ k.max
  | .bool, u => ∃ b, u = .bool b
theorem KE.absS {e : KE} {v : Value} (h : e.okV v) : e.ok (Ar.absS v) := by
  cases e with
  | int k => obtain ⟨n, rfl, h⟩ := h; exact ⟨n, rfl, h⟩
  | bool => obtain ⟨b, rfl⟩ := h; exact ⟨b, rfl⟩

def ke1 (P : Program) (t : TypeId) : Option KE :=
  match P.underlying t with
  | some (.int k) => some (.int k)
  | some .bool => some .bool
  | _ => none
def flatS (P : Program) : List Field → Nat → Option (List KE)
  | [], _ => some []
  | f :: fs, i => if f.offset = i ∧ P.cellsOf f.type = 1 then (match ke1 P f.type, flatS P fs (i + 1) with | some k, some ks => some (k :: ks) | _, _ => none) else none
def flatT (P : Program) (t : TypeId) : Option (List KE) :=
  match P.underlying t with
  | some (.struct fs) => if P.cellsOf t = fs.size then flatS P fs.toList 0 else none
  | _ => (ke1 P t).map fun k => [k]

variable {Hd : Type} {enc : TypeId × Value → Hd} {P : Program} {w : World} {base : Nat} {sp : Nat → Bool} {held : Bool}

theorem wf_bounds {k : IntKind} {n : Int} (h : (Lit.int k n).wf = true) : k.min ≤ n ∧ n ≤ k.max := by
  simpa [Lit.wf] using h

theorem ke1_open {t : TypeId} {k : KE} (hk : ke1 P t = some k) {fuel : Nat} {cs : List Value} {x : DataW Hd × List MemPlace} (h : DataW.trod enc P w base sp held fuel t cs = some x) : ∃ v, cs = [v] ∧ k.okV v := by
  unfold ke1 at hk
  cases fuel with
  | zero => simp [DataW.trod] at h
  | succ n =>
    unfold DataW.trod at h
    split at hk
    · rename_i q hu
      cases hk
      rw [hu] at h
      split at h <;> simp_all
      obtain ⟨⟨rfl, hw⟩, _⟩ := h
      exact ⟨_, rfl, wf_bounds hw⟩
    · rename_i hu
      cases hk
      rw [hu] at h
      split at h <;> simp_all
      exact ⟨_, rfl⟩
    · cases hk

theorem flatS_get : ∀ {fs : List Field} {i : Nat} {ks : List KE}, flatS P fs i = some ks → ks.length = fs.length ∧ ∀ (j : Nat) (f : Field), fs[j]? = some f → f.offset = i + j ∧ P.cellsOf f.type = 1 ∧ ∃ k, ks[j]? = some k ∧ ke1 P f.type = some k
  | [], i, ks, h => by cases h; exact ⟨rfl, fun j f h => by simp at h⟩
  | f :: fs, i, ks, h => by
    simp only [flatS] at h
    split at h
    case isFalse => cases h
    rename_i hc
    split at h
    case h_2 => cases h
    rename_i k ks' h1 h2
    cases h
    obtain ⟨h3, h4⟩ := flatS_get h2
    refine ⟨by simp [h3], fun j g hg => ?_⟩
    cases j with
    | zero => simp at hg; subst hg; exact ⟨by simpa using hc.1, hc.2, k, rfl, h1⟩
    | succ j =>
      simp at hg
      obtain ⟨a, b, c, d, e⟩ := h4 j g hg
      exact ⟨by omega, b, c, by simpa using d, e⟩

theorem flat_open {t : TypeId} {ks : List KE} (hk : flatT P t = some ks) {fuel : Nat} {cs : List Value} {x : DataW Hd × List MemPlace} (h : DataW.trod enc P w base sp held fuel t cs = some x) :
    cs.length = ks.length ∧ ∀ (i : Nat) (v : Value), cs[i]? = some v → ∃ k, ks[i]? = some k ∧ k.okV v := by
  unfold flatT at hk
  split at hk
  · rename_i fs hu
    split at hk
    case isFalse => cases hk
    rename_i hc
    obtain ⟨xs, n, _, _, hl, hx, hf⟩ := DataW.trod_struct hu h
    obtain ⟨h1, h2⟩ := flatS_get hk
    have hlen : cs.length = ks.length := by rw [hl, hc, h1]; simp
    refine ⟨hlen, fun i v hv => ?_⟩
    have hi : i < cs.length := (List.getElem?_eq_some_iff.1 hv).1
    have hif : i < fs.toList.length := by rw [← h1]; omega
    obtain ⟨h3, h4, k, h5, h6⟩ := h2 i _ (List.getElem?_eq_getElem hif)
    have hgi : fs[i]? = some fs.toList[i] := by rw [← Array.getElem?_toList]; exact List.getElem?_eq_getElem hif
    have h7 := hf i _ hgi
    have hxi : i < xs.length := by rw [hx]; simpa using hif
    rw [List.getElem?_eq_getElem hxi] at h7
    obtain ⟨u, hu1, hu2⟩ := ke1_open h6 h7
    refine ⟨k, h5, ?_⟩
    have : ((cs.drop fs.toList[i].offset).take (P.cellsOf fs.toList[i].type))[0]? = some v := by
      rw [h3, h4, List.getElem?_take, if_pos (by omega), List.getElem?_drop]
      simpa using hv
    rw [hu1] at this
    simp at this
    subst this
    exact hu2
  · simp only [Option.map_eq_some_iff] at hk
    obtain ⟨k, hk, rfl⟩ := hk
    obtain ⟨v, rfl, hv⟩ := ke1_open hk h
    refine ⟨rfl, fun i u hu => ?_⟩
    cases i with
    | zero => simp at hu; subst hu; exact ⟨k, rfl, hv⟩
    | succ i => simp at hu

/-! ### A slice, handed in -/
/-- What is known of a slice that was handed in. -/
def SlOk (ks : List KE) (H : Heap) (u : V) : Prop :=
  u = .nils ∨ ∃ k len cs, u = .sl k 0 len len ∧ H[k]? = some (.cells cs .ro) ∧ cs.length = len * ks.length ∧ len ≤ maxLen ∧ ∀ (i : Nat) (x : V), cs[i]? = some x → ∃ e, ks[i % ks.length]? = some e ∧ e.ok x

theorem okSl_spot {t e : TypeId} (ht : P.underlying t = some (.slice e)) {r : Reach} {a : Addr} {len cap : Nat} (h : Cell.okWide P w r base t (.slice (some a) len cap)) : a.spot = none ∧ ∃ c T fr, w.heap[a.block]? = some (.cells c T fr) := by
  simp only [Cell.okWide, ht, Cell.ok] at h
  obtain ⟨_, _, _, h1, row, cells, h2, _⟩ := h
  refine ⟨h1, ?_⟩
  unfold World.shape? at h2
  split at h2
  · rename_i c T fr hb; exact ⟨_, _, _, hb⟩
  · cases h2

theorem cell?_at {a : Addr} {c : Array Value} {T : TypeId} {fr : Nat × Nat} (hb : w.heap[a.block]? = some (.cells c T fr)) (hs : a.spot = none) (n : Nat) : w.cell? (a.add n) = c[a.off + n]? := by
  by_cases h0 : n = 0
  · subst h0; simp [World.cell?, Addr.add, hb, hs]
  · simp [World.cell?, Addr.add, hb, h0]

theorem open_slice {ρ : Rho} {H : Heap} (hS : Sim P w.heap.size w ρ H [] w) {t e : TypeId} (ht : P.underlying t = some (.slice e)) {ks : List KE} (hk : flatT P e = some ks) (hc : P.cellsOf e = ks.length) {r : Reach} {b0 : Nat} {v : Value}
    (hok : Cell.okWide P w r b0 t v) {fuel : Nat} {x : DataW Hd × List MemPlace} (h : DataW.trod enc P w base sp held fuel t [v] = some x) :
    ∃ (ρ' : Rho) (H' : Heap) (u : V), Sim P w.heap.size w ρ' (H ++ H') [] w ∧ RLe ρ ρ' ∧ R ρ' u v ∧ SlOk ks (H ++ H') u ∧ ((u = .nils ∧ H' = []) ∨ ∃ len cs, u = .sl H.length 0 len len ∧ H' = [.cells cs .ro]) := by
  rcases DataW.trod_slice ht h with ⟨h0, _⟩ | ⟨a, len, cap, elems, rest, n, _, hcs, _, _, hl, hm, hlen, hel, _⟩
  · simp at h0; subst h0
    exact ⟨ρ, [], .nils, by simpa using hS, fun _ _ h => h, R.nils, .inl rfl, .inl ⟨rfl, rfl⟩⟩
  · simp at hcs; subst hcs
    obtain ⟨hsp, c, T, fr, hb⟩ := okSl_spot ht hok
    have hcell : ∀ i j, i < len → j < ks.length → ∃ v', c[a.off + (i * ks.length + j)]? = some v' ∧ ∃ k, ks[j]? = some k ∧ k.okV v' := fun i j hi hj => by
      have hE := hel i hi
      rw [List.getElem?_eq_getElem (by omega : i < elems.length)] at hE
      simp only [Option.bind_eq_some_iff] at hE
      obtain ⟨cs, h1, h2⟩ := hE
      obtain ⟨h3, h4⟩ := flat_open hk h2
      obtain ⟨_, _, h5⟩ := World.cells?_some h1
      have hj' : j < cs.length := by omega
      have h6 := h5 j (by omega)
      rw [List.getElem?_eq_getElem hj'] at h6
      have haa : (a.add (i * P.cellsOf e)).add j = a.add (i * ks.length + j) := by
        rw [hc]
        unfold Addr.add
        split <;> split <;> simp_all <;> omega
      rw [haa, cell?_at hb hsp] at h6
      exact ⟨_, h6, h4 j _ (List.getElem?_eq_getElem hj')⟩
    let cs : List V := (List.range (len * ks.length)).map fun i => absS (c[a.off + i]?.getD undef)
    have hone : ∀ i, i < len * ks.length → ∃ v', c[a.off + i]? = some v' ∧ ∃ k, ks[i % ks.length]? = some k ∧ k.okV v' := fun i hi => by
      have hpos : 0 < ks.length := by
        rcases Nat.eq_zero_or_pos ks.length with h | h
        · rw [h] at hi; simp at hi
        · exact h
      obtain ⟨v', h1, h2⟩ := hcell (i / ks.length) (i % ks.length) (Nat.div_lt_of_lt_mul (by rw [Nat.mul_comm]; exact hi)) (Nat.mod_lt _ hpos)
      rw [Nat.mul_comm, Nat.div_add_mod] at h1
      exact ⟨v', h1, h2⟩
    let L : Loc := ⟨a.block, a.off, .loose⟩
    have hblk : BlkOk P w.heap.size (ext ρ H.length L) L w (.cells cs .ro) := by
      refine ⟨c, T, fr, hb, fun i u hu => ?_, fun es sz => by simp [L]⟩
      have hi : i < len * ks.length := by
        have := (List.getElem?_eq_some_iff.1 hu).1
        simpa [cs] using this
      obtain ⟨v', h1, _⟩ := hone i hi
      refine ⟨v', h1, ?_⟩
      simp only [cs, List.getElem?_map, List.getElem?_range hi, Option.map_some, h1, Option.getD_some, Option.some.injEq] at hu
      subst hu
      exact absS_ok _ _
    have hS' : Sim P w.heap.size w (ext ρ H.length L) (H ++ [.cells cs .ro]) [] w := by
      have hle : RLe ρ (ext ρ H.length L) := le_ext (hS.out _ (Nat.le_refl _)) L
      have hget : ∀ (k : Nat) (b : Blk), (H ++ [Blk.cells cs .ro])[k]? = some b → (k < H.length ∧ H[k]? = some b) ∨ (k = H.length ∧ b = .cells cs .ro) := fun k b hb => by
        by_cases hk : k < H.length
        · rw [List.getElem?_append_left hk] at hb; exact .inl ⟨hk, hb⟩
        · rw [List.getElem?_append_right (by omega)] at hb
          cases hd : k - H.length with
          | zero => rw [hd] at hb; simp at hb; exact .inr ⟨by omega, hb.symm⟩
          | succ i => rw [hd] at hb; simp at hb
      have hold : ∀ k, k < H.length → ext ρ H.length L k = ρ k := fun k hk => by unfold ext; rw [if_neg (by omega)]
      refine ⟨fun k hk => ?_, hS.base, hS.low, fun k b hb hl => ?_, fun k k' b b' M M' hkk hb hbo hb' hbl hM hM' => ?_, fun r hr => by cases hr⟩
      · simp at hk; unfold ext; rw [if_neg (by omega)]; exact hS.out k (by omega)
      · rcases hget k b hb with ⟨hk, h⟩ | ⟨rfl, rfl⟩
        · obtain ⟨M, h1, h2⟩ := hS.blk k b h hl
          exact ⟨M, hle _ _ h1, h2.mono hle⟩
        · exact ⟨L, by simp [ext], hblk⟩
      · rcases hget k b hb with ⟨hk, h⟩ | ⟨rfl, rfl⟩
        · rcases hget k' b' hb' with ⟨hk', h'⟩ | ⟨rfl, rfl⟩
          · rw [hold k hk] at hM; rw [hold k' hk'] at hM'
            exact hS.sep k k' b b' M M' hkk h hbo h' hbl hM hM'
          · have e1 : M' = L := by simp [ext] at hM'; exact hM'.symm
            rw [hold k hk] at hM
            obtain ⟨M1, h1, h2⟩ := hS.blk k b h (Blk.own_live hbo)
            rw [hM] at h1; cases h1
            have h3 := h2.low hbo
            have h4 : a.block < w.heap.size := (Array.getElem?_eq_some_iff.1 ‹w.heap[a.block]? = some (.cells c T fr)›).1
            subst e1
            simp only [L]; omega
        · simp [Blk.own, Mode.wr] at hbo
    refine ⟨ext ρ H.length L, [.cells cs .ro], .sl H.length 0 len len, hS', le_ext (hS.out _ (Nat.le_refl _)) L, ?_, .inr ⟨H.length, len, cs, rfl, by simp, by simp [cs], by omega, fun i u hu => ?_⟩, .inr ⟨len, cs, rfl, rfl⟩⟩
    · have haddr : (⟨L.blk, L.base + 0, none⟩ : Addr) = a := by
        obtain ⟨b, o, s⟩ := a
        simp only at hsp
        subst hsp
        rfl
      have := @R.sl (ext ρ H.length L) H.length 0 len len cap L (by simp [ext]) hl
      rwa [haddr] at this
    · have hi : i < len * ks.length := by
        have := (List.getElem?_eq_some_iff.1 hu).1
        simpa [cs] using this
      obtain ⟨v', h1, k, h2, h3⟩ := hone i hi
      simp only [cs, List.getElem?_map, List.getElem?_range hi, Option.map_some, h1, Option.getD_some, Option.some.injEq] at hu
      subst hu
      exact ⟨k, h2, KE.absS h3⟩
end Go.Ar
/- The row of a law: what was handed in reads as it did. -/
set_option linter.unusedSimpArgs false
set_option linter.unusedVariables false
namespace Go.Ar
open Go.RowKit Go.WideShapes Go.ChangeShapes
variable {Hd : Type} {enc : TypeId × Value → Hd} {P : Program}

theorem trodAll_below (hl : laidOutB P = true) {W W' : World} (hb : Below W.heap.size W W') : ∀ (ts : List TypeId) (vs : List Value) (ds : List (DataW Hd)) (ps : List MemPlace),
    (∀ t ∈ ts, P.readableRec t = true ∧ t < P.types.size) → DataW.TrodAll enc P W 0 (fun _ => true) true ts vs ds ps → DataW.TrodAll enc P W' 0 (fun b => decide (b < W.heap.size)) true ts vs ds ps
  | [], vs, ds, ps, _, h => by
    obtain ⟨rfl, rfl, rfl⟩ := trodAll_nil h
    rfl
  | t :: ts, vs, ds, ps, ht, h => by
    obtain ⟨v, vs', d, ds', p, q, rfl, rfl, rfl, h1, h2⟩ := trodAll_cons h
    refine trodAll_cons_mk (Below.trod hl (ht t (by simp)).1 (ht t (by simp)).2 h1 hb ?_) (trodAll_below hl hb ts vs' ds' q (fun u hu => ht u (by simp [hu])) h2)
    obtain ⟨m, hm⟩ := h1
    exact DataW.trod_lt m _ _ _ hm

/-- What a run of the abstract interpreter says, as the row asks it. -/
theorem walk_of (hm : P.follows .mixedOrders = true) {E : Env} (hE : EnvOk P E) {g : Nat} {us : List V} {H H' : Heap} (h : callL E (.f g) us H = some (.bool true, H')) {args : Array Value} {W : World} {ρ : Rho}
    (hS : Sim P W.heap.size W ρ H [] W) (hR : RL ρ us args.toList) : Calls P g args W fun e W' => e = .returned (.bool true) ∧ Below W.heap.size W W' := by
  refine (calls_of hm hE h hS hR).mono fun e W' hp => ?_
  obtain ⟨v, rfl, ρ', hv, _, hS'⟩ := hp
  rw [hv.bool_inv]
  exact ⟨rfl, hS'.low⟩

def yesb : Option (V × Heap) → Bool | some (.bool true, _) => true | _ => false
theorem yesb_of {r : Option (V × Heap)} (h : yesb r = true) : ∃ H', r = some (.bool true, H') := by
  unfold yesb at h
  split at h
  · exact ⟨_, rfl⟩
  · cases h
theorem okWide_cell {W : World} {r : Reach} {b0 : Nat} {t : TypeId} {v : Value} (h : Value.okWide P W r b0 t v) (hs : (match P.underlying t with | some (.struct _) | some (.array _ _) => false | _ => true) = true) : Cell.okWide P W r b0 t v := by
  unfold Value.okWide at h
  split at h <;> simp_all
end Go.Ar
/- Symbolic runs: the rules that simp is told; rows of cells, and what keeps them. -/
set_option linter.unusedSimpArgs false
set_option linter.unusedVariables false
namespace Go.Ar

theorem put_some (τ : Nat → V) (d : Nat) (v : V) : put τ (some d) v = upd τ d v := rfl
theorem put_none (τ : Nat → V) (v : V) : put τ none v = τ := rfl
theorem upd_at (τ : Nat → V) (d t : Nat) (v : V) : upd τ d v t = cond (t == d) v (τ t) := rfl
attribute [simp] put_some put_none upd_at execL_seq execL_reg execL_ret execL_skip execL_exit execL_block insL ins wanted ev andThen unblk binop finish resL res1 pack args0 eqv hiOf loOf

theorem aop_len (call : CallF) (τ : Nat → V) (H : Heap) (x : X) : aop call τ H (.len x) = (lenOf (ev τ x)).map fun n => (.int .i64 n, H) := by
  simp only [aop]
  cases ev τ x <;> rfl
attribute [simp] aop_len
theorem lenAt_nils : lenOf .nils = some 0 := rfl
theorem lenAt_es : lenOf .es = some 0 := rfl
theorem lenAt_sl (k o n c : Nat) : lenOf (.sl k o n c) = some n := rfl
theorem cells_bool (b : Bool) : (V.bool b).cells = some [.bool b] := rfl
theorem cells_int (k : IntKind) (n : Int) : (V.int k n).cells = some [.int k n] := rfl
theorem cells_nilp : V.nilp.cells = some [.nilp] := rfl
theorem cells_ptr (k o : Nat) : (V.ptr k o).cells = some [.ptr k o] := rfl
theorem cells_nils : V.nils.cells = some [.nils] := rfl
theorem cells_es : V.es.cells = some [.es] := rfl
theorem cells_sl (k o n c : Nat) : (V.sl k o n c).cells = some [.sl k o n c] := rfl
theorem cells_nilm : V.nilm.cells = some [.nilm] := rfl
theorem cells_map (k : Nat) : (V.map k).cells = some [.map k] := rfl
theorem cells_nilf : V.nilf.cells = some [.nilf] := rfl
theorem cells_fn (f : Nat) (a b : List V) : (V.fn f a b).cells = some [.fn f a b] := rfl
theorem cells_yld (k : Nat) : (V.yld k).cells = some [.yld k] := rfl
theorem cells_agg (cs : List V) : (V.agg cs).cells = some cs := rfl
attribute [simp] lenAt_nils lenAt_es lenAt_sl cells_bool cells_int cells_nilp cells_ptr cells_nils cells_es cells_sl cells_nilm cells_map cells_nilf cells_fn cells_yld cells_agg
theorem aop_mv (call : CallF) (τ : Nat → V) (H : Heap) (x : X) : aop call τ H (.mv x) = (some (ev τ x, H)) := rfl
theorem aop_pick (call : CallF) (τ : Nat → V) (H : Heap) (c : X) (a : X) (b : X) : aop call τ H (.pick c a b) = (match ev τ c with | .bool t => some (cond t (ev τ a) (ev τ b), H) | _ => none) := rfl
theorem aop_alloc (call : CallF) (τ : Nat → V) (H : Heap) (zs : List V) : aop call τ H (.alloc zs) = (some (.ptr H.length 0, H ++ [.cells zs .ex])) := rfl
theorem aop_box (call : CallF) (τ : Nat → V) (H : Heap) (n : Nat) (x : X) : aop call τ H (.box n x) = (match (ev τ x).cells with | some cs => if cs.length = n then some (.ptr H.length 0, H ++ [.cells cs .ex]) else none | none => none) := rfl
theorem aop_build (call : CallF) (τ : Nat → V) (H : Heap) (zs : List V) (ps : List (Nat × Nat × X)) : aop call τ H (.build zs ps) = ((fillc zs (ps.map fun p => (p.1, p.2.1, ev τ p.2.2))).map fun cs => (.agg cs, H)) := rfl
theorem aop_bslice (call : CallF) (τ : Nat → V) (H : Heap) (len : Nat) (size : Nat) (zs : List V) (ps : List (Nat × X)) : aop call τ H (.bslice len size zs ps) = ((fillc zs (ps.map fun p => (p.1, size, ev τ p.2))).map fun cs => (.sl H.length 0 len len, H ++ [.cells cs .ex])) := rfl
theorem aop_load (call : CallF) (τ : Nat → V) (H : Heap) (n : Nat) (agg : Bool) (x : X) : aop call τ H (.load n agg x) = (match ev τ x with
    | .ptr k o => if agg then (rdn H k o n).map fun cs => (.agg cs, H) else (rd H k o).map fun v => (v, H)
    | _ => none) := rfl
theorem aop_store (call : CallF) (τ : Nat → V) (H : Heap) (n : Nat) (x : X) (v : X) : aop call τ H (.store n x v) = (match ev τ x, (ev τ v).cells with
    | .ptr k o, some cs => if cs.length = n then (wr H k o cs).map fun H' => (.undef, H') else none
    | _, _ => none) := rfl
theorem aop_nilc (call : CallF) (τ : Nat → V) (H : Heap) (x : X) : aop call τ H (.nilc x) = (match ev τ x with | .ptr k o => some (.ptr k o, H) | .fn f a b => some (.fn f a b, H) | .yld k => some (.yld k, H) | _ => none) := rfl
theorem aop_bin (call : CallF) (τ : Nat → V) (H : Heap) (op : BinOp) (x : X) (y : X) : aop call τ H (.bin op x y) = ((binop op (ev τ x) (ev τ y)).map fun v => (v, H)) := rfl
theorem aop_eq (call : CallF) (τ : Nat → V) (H : Heap) (ne : Bool) (e : EK) (x : X) (y : X) : aop call τ H (.eq ne e x y) = ((eqv e (ev τ x) (ev τ y)).map fun b => (.bool (cond ne (!b) b), H)) := rfl
theorem aop_neg (call : CallF) (τ : Nat → V) (H : Heap) (x : X) : aop call τ H (.neg x) = (match ev τ x with | .int k n => some (.int k (k.wrap (0 - n)), H) | _ => none) := rfl
theorem aop_not (call : CallF) (τ : Nat → V) (H : Heap) (x : X) : aop call τ H (.not x) = (match ev τ x with | .bool b => some (.bool (!b), H) | _ => none) := rfl
theorem aop_conv (call : CallF) (τ : Nat → V) (H : Heap) (k : IntKind) (x : X) : aop call τ H (.conv k x) = (match ev τ x with | .int _ n => some (.int k (k.wrap n), H) | _ => none) := rfl
theorem aop_mkfn (call : CallF) (τ : Nat → V) (H : Heap) (f : Nat) (a : List X) (b : List X) : aop call τ H (.mkfn f a b) = (some (.fn f (a.map (ev τ)) (b.map (ev τ)), H)) := rfl
theorem aop_mkslice (call : CallF) (τ : Nat → V) (H : Heap) (u0 : Nat) (bytes : Nat) (zs : List V) (l : X) : aop call τ H (.mkslice u0 bytes zs l) = (match ev τ l with
    | .int _ n => if 0 ≤ n ∧ n ≤ lim ∧ n * bytes ≤ 2 ^ 40 then some (.sl H.length 0 n.toNat n.toNat, H ++ [.cells ((List.replicate n.toNat zs).flatten) .ex]) else none
    | _ => none) := rfl
theorem aop_slc (call : CallF) (τ : Nat → V) (H : Heap) (size : Nat) (x : X) (lo : Option X) (hi : Option X) : aop call τ H (.slc size x lo hi) = ((slcv H size (ev τ x) (lo.map (ev τ)) (hi.map (ev τ))).map fun v => (v, H)) := rfl
theorem aop_fadr (call : CallF) (τ : Nat → V) (H : Heap) (off : Nat) (x : X) : aop call τ H (.fadr off x) = (match ev τ x with | .ptr k o => some (.ptr k (o + off), H) | _ => none) := rfl
theorem aop_fld (call : CallF) (τ : Nat → V) (H : Heap) (off : Nat) (n : Nat) (agg : Bool) (x : X) : aop call τ H (.fld off n agg x) = (match ev τ x with
    | .agg cs => if agg then some (.agg ((cs.drop off).take n), H) else (cs[off]?).map fun v => (v, H)
    | _ => none) := rfl
theorem aop_iadr (call : CallF) (τ : Nat → V) (H : Heap) (size : Nat) (x : X) (i : X) : aop call τ H (.iadr size x i) = (match ev τ x, ev τ i with
    | .sl k o len _, .int _ n => if 0 ≤ n ∧ n < len then some (.ptr k (o + n.toNat * size), H) else none
    | _, _ => none) := rfl
theorem aop_idx (call : CallF) (τ : Nat → V) (H : Heap) (len : Nat) (size : Nat) (agg : Bool) (x : X) (i : X) : aop call τ H (.idx len size agg x i) = (match ev τ x, ev τ i with
    | .agg cs, .int _ n => if 0 ≤ n ∧ n < len then (if agg then some (.agg ((cs.drop (n.toNat * size)).take size), H) else (cs[n.toNat * size]?).map fun v => (v, H)) else none
    | _, _ => none) := rfl
theorem aop_ext (call : CallF) (τ : Nat → V) (H : Heap) (x : X) (j : Nat) : aop call τ H (.ext x j) = (match ev τ x with | .tup vs => (vs[j]?).map fun v => (v, H) | _ => none) := rfl
theorem aop_call (call : CallF) (τ : Nat → V) (H : Heap) (f : X) (args : List X) : aop call τ H (.call f args) = (match ev τ f with
    | .fn g a b => call (.f g) (a ++ args.map (ev τ) ++ b) H
    | .yld k => call (.y k) (args.map (ev τ)) H
    | _ => none) := rfl
theorem aop_mlen (call : CallF) (τ : Nat → V) (H : Heap) (x : X) : aop call τ H (.mlen x) = ((mapOf H (ev τ x)).map fun es => (.int .i64 es.length, H)) := rfl
theorem aop_append (call : CallF) (τ : Nat → V) (H : Heap) (size : Nat) (bytes : Nat) (x : X) (y : X) : aop call τ H (.append size bytes x y) = (appendv H size bytes (ev τ x) (ev τ y)) := rfl
theorem aop_copy (call : CallF) (τ : Nat → V) (H : Heap) (size : Nat) (x : X) (y : X) : aop call τ H (.copy size x y) = (match lenOf (ev τ x), lenOf (ev τ y) with
    | some n, some m => match cellsOf H size (ev τ y) with
      | some ys => match ev τ x with
        | .sl k o _ _ => (wr H k o (ys.take (min m n * size))).map fun H' => (.int .i64 (min m n), H')
        | .nils => some (.int .i64 0, H)
        | _ => none
      | none => none
    | _, _ => none) := rfl
theorem aop_mn (call : CallF) (τ : Nat → V) (H : Heap) (x : X) (y : X) : aop call τ H (.mn x y) = (match ev τ x, ev τ y with | .int k a, .int k' b => if k = k' then some (.int k (if b < a then b else a), H) else none | _, _ => none) := rfl
theorem aop_mx (call : CallF) (τ : Nat → V) (H : Heap) (x : X) (y : X) : aop call τ H (.mx x y) = (match ev τ x, ev τ y with | .int k a, .int k' b => if k = k' then some (.int k (if b > a then b else a), H) else none | _, _ => none) := rfl
theorem aop_clear (call : CallF) (τ : Nat → V) (H : Heap) (u0 : Nat) (zs : List V) (x : X) : aop call τ H (.clear u0 zs x) = (match ev τ x with
    | .nils => some (.tup [], H)
    | .sl k o n _ => if n = 0 then some (.tup [], H) else (wr H k o ((List.replicate n zs).flatten)).map fun H' => (.tup [], H')
    | _ => none) := rfl
theorem aop_mkmap (call : CallF) (τ : Nat → V) (H : Heap)  : aop call τ H (.mkmap ) = (some (.map H.length, H ++ [.mp []])) := rfl
theorem aop_lookup (call : CallF) (τ : Nat → V) (H : Heap) (kk : KK) (zero : V) (ok : Bool) (m : X) (x : X) : aop call τ H (.lookup kk zero ok m x) = (match mapOf H (ev τ m) with
    | some es => match keyf kk (ev τ x) es with
      | some (some (_, v)) => some (cond ok (.tup [v, .bool true]) v, H)
      | some none => some (cond ok (.tup [zero, .bool false]) zero, H)
      | none => none
    | none => none) := rfl
theorem aop_mapupd (call : CallF) (τ : Nat → V) (H : Heap) (kk : KK) (m : X) (x : X) (v : X) : aop call τ H (.mapupd kk m x v) = (match ev τ m with
    | .map k => match mpAt H k with
      | some es => match keyf kk (ev τ x) es with
        | some (some (i, _)) => some (.undef, H.set k (.mp (es.set i (ev τ x, ev τ v))))
        | some none => some (.undef, H.set k (.mp (es ++ [(ev τ x, ev τ v)])))
        | none => none
      | none => none
    | _ => none) := rfl
theorem aop_mapent (call : CallF) (τ : Nat → V) (H : Heap) (kk : KK) (zero : V) (m : X) (x : X) : aop call τ H (.mapent kk zero m x) = (match ev τ m with
    | .map k => match mpAt H k with
      | some es => match keyf kk (ev τ x) es with
        | some (some (i, v)) => some (.tup [v, .int .i64 i], H.set k (.mp (es.set i (ev τ x, v))))
        | some none => some (.tup [zero, .int .i64 es.length], H.set k (.mp (es ++ [(ev τ x, zero)])))
        | none => none
      | none => none
    | _ => none) := rfl
theorem aop_entst (call : CallF) (τ : Nat → V) (H : Heap) (m : X) (s : X) (v : X) : aop call τ H (.entst m s v) = (match ev τ m, ev τ s with
    | .map k, .int _ n => match mpAt H k with
      | some es => match es[n.toNat]? with
        | some e => if 0 ≤ n then some (.undef, H.set k (.mp (es.set n.toNat (e.1, ev τ v)))) else none
        | none => none
      | none => none
    | _, _ => none) := rfl
theorem aop_bad (call : CallF) (τ : Nat → V) (H : Heap)  : aop call τ H (.bad ) = (none) := rfl
attribute [simp] aop_mv aop_pick aop_alloc aop_box aop_build aop_bslice aop_load aop_store aop_nilc aop_bin aop_eq aop_neg aop_not aop_conv aop_mkfn aop_mkslice aop_slc aop_fadr aop_fld aop_iadr aop_idx aop_ext aop_call aop_mlen aop_append aop_copy aop_mn aop_mx aop_clear aop_mkmap aop_lookup aop_mapupd aop_mapent aop_entst aop_bad

theorem int_beq (a b : Nat) : ((a : Int) == (b : Int)) = (a == b) := by
  rw [Bool.eq_iff_iff]; simp; omega
theorem int_beq0 (a : Nat) : ((a : Int) == 0) = (a == 0) := int_beq a 0

/-- A row: so many elements of so many cells. -/
structure Rw (H : Heap) (sz : Nat) (x : V) (len : Nat) (cs : List V) : Prop where
  len : lenOf x = some len
  cells : cellsOf H sz x = some cs
theorem Rw.size {H : Heap} {sz len : Nat} {x : V} {cs : List V} (h : Rw H sz x len cs) : cs.length = len * sz := by
  obtain ⟨h1, h2⟩ := h
  cases x <;> simp [lenOf] at h1 <;> subst h1 <;> simp only [cellsOf] at h2
  · cases h2; simp
  · cases h2; simp
  · simp only [rdn] at h2
    split at h2
    · split at h2
      · cases h2; simp; omega
      · cases h2
    · cases h2
theorem Rw.frame {H H' : Heap} {sz len : Nat} {x : V} {cs : List V} (h : Rw H sz x len cs) (e : ∀ k, x.blk? = some k → H'[k]? = H[k]?) : Rw H' sz x len cs := by
  refine ⟨h.len, ?_⟩
  have h2 := h.cells
  cases x <;> simp only [cellsOf] at h2 ⊢ <;> first | exact h2 | cases h2 | skip
  exact (rdn_at h2).2 H' (e _ rfl)
/-- Its elements' cells, where they lie. -/
theorem len_cells {x : V} {n : Nat} (h : lenOf x = some n) : x.cells = some [x] := by
  cases x <;> simp [lenOf] at h <;> rfl
theorem Rw.one {H : Heap} {sz len : Nat} {x : V} {cs : List V} (h : Rw H sz x len cs) : x.cells = some [x] := len_cells h.len
theorem Rw.at {H : Heap} {sz len : Nat} {x : V} {cs : List V} (h : Rw H sz x len cs) {n : Nat} (hn : n < len) : ∃ k o c, x = .sl k o len c ∧ ∀ j, j < sz → rd H k (o + n * sz + j) = cs[n * sz + j]? := by
  obtain ⟨h1, h2⟩ := h
  cases x <;> simp [lenOf] at h1
  all_goals try (subst h1; simp at hn; done)
  rename_i k o l c
  subst h1
  refine ⟨k, o, c, rfl, fun j hj => ?_⟩
  simp only [cellsOf, rdn] at h2
  split at h2
  · rename_i ds m hk
    split at h2
    · rename_i hle
      cases h2
      have : n * sz + j < l * sz := by
        have : n * sz + sz ≤ l * sz := by rw [← Nat.succ_mul]; exact Nat.mul_le_mul_right _ hn
        omega
      simp [rd, hk, List.getElem?_take, this, Nat.add_assoc]
    · cases h2
  · cases h2
theorem Rw.at1 {H : Heap} {len : Nat} {x : V} {cs : List V} (h : Rw H 1 x len cs) {n : Nat} (hn : n < len) : ∃ k o c, x = .sl k o len c ∧ rd H k (o + n) = cs[n]? := by
  obtain ⟨k, o, c, h1, h2⟩ := h.at hn
  refine ⟨k, o, c, h1, ?_⟩
  have := h2 0 (by omega)
  simpa using this

/-- A row of bools; of whole numbers. -/
def BL (H : Heap) (x : V) (bs : List Bool) : Prop := Rw H 1 x bs.length (bs.map .bool)
def IL (k : IntKind) (H : Heap) (x : V) (zs : List Int) : Prop := Rw H 1 x zs.length (zs.map (.int k))
theorem BL.frame {H H' : Heap} {x : V} {bs : List Bool} (h : BL H x bs) (e : ∀ k, x.blk? = some k → H'[k]? = H[k]?) : BL H' x bs := Rw.frame h e
theorem IL.frame {k : IntKind} {H H' : Heap} {x : V} {zs : List Int} (h : IL k H x zs) (e : ∀ k, x.blk? = some k → H'[k]? = H[k]?) : IL k H' x zs := Rw.frame h e
theorem BL.at {H : Heap} {x : V} {bs : List Bool} (h : BL H x bs) {n : Nat} (hn : n < bs.length) : ∃ k o c, x = .sl k o bs.length c ∧ rd H k (o + n) = some (.bool (bs.getD n false)) := by
  obtain ⟨k, o, c, h1, h2⟩ := Rw.at1 h hn
  exact ⟨k, o, c, h1, by rw [h2]; simp [hn]⟩
theorem IL.at {q : IntKind} {H : Heap} {x : V} {zs : List Int} (h : IL q H x zs) {n : Nat} (hn : n < zs.length) : ∃ k o c, x = .sl k o zs.length c ∧ rd H k (o + n) = some (.int q (zs.getD n 0)) := by
  obtain ⟨k, o, c, h1, h2⟩ := Rw.at1 h hn
  exact ⟨k, o, c, h1, by rw [h2]; simp [hn]⟩

theorem call_Y {P : Program} {k g : Nat} {fc : FC} (hg : (g == k) = false) (hC : codeOf P g = some fc) {args : List V} (hl : args.length = fc.nargs) {H : Heap} :
    callL (envY P k) (.f g) args H = finish fc (execL (envY P k) fc.body ⟨args0 args, H⟩) :=
  callL_f (E := envY P k) (by have : g ≠ k := by simpa using hg
                              simp [envY, yes, this]) hC hl
theorem call_yes {P : Program} {k : Nat} {H : Heap} : callL (envY P k) (.f k) [] H = some (.bool true, H) := by
  have h : (envY P k).S k = yes k k := rfl
  unfold yes at h
  rw [if_pos rfl] at h
  rw [callL_S h]
end Go.Ar
/- Slices of slices; rows that are laid anew, or appended to. -/
set_option linter.unusedSimpArgs false
set_option linter.unusedVariables false
namespace Go.Ar

/-- A slice that may be sliced: its row is handed in, or was made by append. -/
def SlG (H : Heap) (sz : Nat) : V → Prop
  | .nils | .es => True
  | .sl k _ len cap => len ≤ cap ∧ ∃ cs m, H[k]? = some (.cells cs m) ∧ (m = .ro ∨ m = .gr sz ∨ m = .rg sz)
  | _ => False
theorem SlG.frame {H H' : Heap} {sz : Nat} {x : V} (h : SlG H sz x) (e : ∀ k, x.blk? = some k → H'[k]? = H[k]?) : SlG H' sz x := by
  cases x <;> first | exact h | skip
  obtain ⟨h1, cs, m, h2, h3⟩ := h
  exact ⟨h1, cs, m, (e _ rfl).trans h2, h3⟩

theorem slcv_moved {H : Heap} {sz k o len cap : Nat} (hg : SlG H sz (.sl k o len cap)) {lo hi : Option V} {l h : Int} (hlo : loOf lo = some l) (hhi : hiOf len hi = some h) (h1 : 0 ≤ l ∧ l ≤ h ∧ h ≤ cap) :
    slcv H sz (.sl k o len cap) lo hi = some (moved k o sz len cap l.toNat h.toNat) := by
  obtain ⟨_, cs, m, h2, h3⟩ := hg
  unfold slcv
  simp only [hlo, hhi, if_pos h1, h2]
  rcases h3 with rfl | rfl | rfl <;> simp

theorem Rw.slice {H : Heap} {sz n : Nat} {x : V} {cs : List V} (h : Rw H sz x n cs) (hg : SlG H sz x) {lo hi : Option V} {l m : Nat} (hlo : loOf lo = some (l : Int)) (hhi : hiOf n hi = some (m : Int)) (hl : l ≤ m) (hm : m ≤ n) :
    ∃ x', slcv H sz x lo hi = some x' ∧ Rw H sz x' (m - l) ((cs.drop (l * sz)).take ((m - l) * sz)) ∧ SlG H sz x' ∧ ∀ k, x'.blk? = some k → x.blk? = some k := by
  have hsz := h.size
  obtain ⟨h1, h2⟩ := h
  cases x <;> simp [lenOf] at h1
  case nils =>
    subst h1
    have : m = 0 := by omega
    subst this
    have : l = 0 := by omega
    subst this
    exact ⟨.nils, by simp only [slcv]; rw [hhi, hlo]; rfl, ⟨rfl, by simp [cellsOf]⟩, trivial, fun k hk => hk⟩
  case es =>
    subst h1
    have : m = 0 := by omega
    subst this
    have : l = 0 := by omega
    subst this
    exact ⟨.es, by simp only [slcv]; rw [hhi, hlo]; rfl, ⟨rfl, by simp [cellsOf]⟩, trivial, fun k hk => hk⟩
  case sl k o len cap =>
    subst h1
    have hg0 := hg
    obtain ⟨hc, ds, md, hk, hmd⟩ := hg0
    refine ⟨_, slcv_moved hg hlo hhi ⟨by omega, by omega, by omega⟩, ?_⟩
    simp only [Int.toNat_natCast]
    have hle : o + len * sz ≤ ds.length := by
      simp only [cellsOf, rdn, hk] at h2
      split at h2
      · rename_i hle; exact hle
      · cases h2
    have hcs : cs = (ds.drop o).take (len * sz) := by
      simp only [cellsOf, rdn, hk, if_pos hle] at h2
      cases h2; rfl
    have hms : m * sz ≤ len * sz := Nat.mul_le_mul_right _ hm
    have hls : l * sz ≤ m * sz := Nat.mul_le_mul_right _ hl
    have hsub : (m - l) * sz = m * sz - l * sz := Nat.sub_mul m l sz
    have hrow : ∀ o', o' = o + l * sz → rdn H k o' ((m - l) * sz) = some ((cs.drop (l * sz)).take ((m - l) * sz)) := fun o' e => by
      subst e
      simp only [rdn, hk]
      rw [if_pos (by omega)]
      rw [hcs, List.drop_take, List.drop_drop, List.take_take]
      congr 2
      omega
    unfold moved
    split
    · rename_i h0
      subst h0
      exact ⟨⟨rfl, hrow o (by omega)⟩, ⟨by omega, ds, md, hk, hmd⟩, fun j hj => hj⟩
    · split
      · exact ⟨⟨rfl, hrow _ rfl⟩, ⟨by omega, ds, md, hk, hmd⟩, fun j hj => hj⟩
      · refine ⟨⟨by simp [lenOf]; omega, ?_⟩, trivial, fun j hj => by simp [V.blk?] at hj⟩
        have : m - l = 0 := by omega
        rw [this]
        simp [cellsOf]

theorem IL.tail {q : IntKind} {H : Heap} {x : V} {z : Int} {zs : List Int} (h : IL q H x (z :: zs)) (hg : SlG H 1 x) :
    ∃ x', slcv H 1 x (some (.int .i64 1)) none = some x' ∧ IL q H x' zs ∧ SlG H 1 x' ∧ ∀ k, x'.blk? = some k → x.blk? = some k := by
  obtain ⟨x', h1, h2, h3, h4⟩ := Rw.slice h hg (lo := some (.int .i64 1)) (hi := none) (l := 1) (m := zs.length + 1) rfl (by simp [hiOf]) (by omega) (by simp)
  refine ⟨x', h1, ?_, h3, h4⟩
  unfold IL
  have e : (((z :: zs).map (V.int q)).drop (1 * 1)).take ((zs.length + 1 - 1) * 1) = zs.map (.int q) := by simp; rw [List.take_of_length_le (by simp)]
  rw [e] at h2
  simpa using h2
theorem IL.upto {q : IntKind} {H : Heap} {x : V} {zs : List Int} (h : IL q H x zs) (hg : SlG H 1 x) (m : Nat) (hm : m ≤ zs.length) :
    ∃ x', slcv H 1 x none (some (.int .i64 m)) = some x' ∧ IL q H x' (zs.take m) ∧ SlG H 1 x' ∧ ∀ k, x'.blk? = some k → x.blk? = some k := by
  obtain ⟨x', h1, h2, h3, h4⟩ := Rw.slice h hg (lo := none) (hi := some (.int .i64 m)) (l := 0) (m := m) rfl rfl (by omega) hm
  refine ⟨x', h1, ?_, h3, h4⟩
  unfold IL
  have e : ((zs.map (V.int q)).drop (0 * 1)).take ((m - 0) * 1) = (zs.take m).map (.int q) := by simp [List.map_take]
  rw [e] at h2
  simpa [Nat.min_eq_left hm] using h2

/-- Out of what was handed in. -/
theorem SlOk.IL {q : IntKind} {H : Heap} {u : V} (h : SlOk [.int q] H u) : ∃ zs, Ar.IL q H u zs ∧ SlG H 1 u ∧ zs.length ≤ maxLen ∧ ∀ z ∈ zs, q.min ≤ z ∧ z ≤ q.max := by
  rcases h with rfl | ⟨k, len, cs, rfl, hk, hl, hm, hx⟩
  · exact ⟨[], ⟨rfl, rfl⟩, trivial, by simp, by simp⟩
  · simp only [List.length_cons, List.length_nil, Nat.zero_add, Nat.mul_one] at hl
    have hz : ∀ i, i < cs.length → ∃ z, cs[i]? = some (.int q z) ∧ q.min ≤ z ∧ z ≤ q.max := fun i hi => by
      obtain ⟨e, he, hok⟩ := hx i _ (List.getElem?_eq_getElem hi)
      have h1 : i % 1 = 0 := Nat.mod_one i
      simp only [List.length_cons, List.length_nil, Nat.zero_add, h1, List.getElem?_cons_zero, Option.some.injEq] at he
      subst he
      obtain ⟨z, hz, hb⟩ := hok
      exact ⟨z, by rw [List.getElem?_eq_getElem hi, hz], hb⟩
    let num : V → Int := fun v => match v with | .int _ n => n | _ => 0
    have hcs : cs = (cs.map num).map (.int q) := by
      refine List.ext_getElem? fun i => ?_
      by_cases hi : i < cs.length
      · obtain ⟨z, h1, _⟩ := hz i hi
        simp [h1, num]
      · simp [List.getElem?_eq_none (by omega : cs.length ≤ i)]
    refine ⟨cs.map num, ⟨by simp [lenOf, hl], ?_⟩, ⟨Nat.le_refl _, cs, .ro, hk, .inl rfl⟩, by simp; omega, fun z hzm => ?_⟩
    · simp only [cellsOf, rdn, hk]
      rw [if_pos (by omega)]
      simp only [List.drop_zero]
      rw [List.take_of_length_le (by omega)]
      rw [← hcs]
    · obtain ⟨v, hv, rfl⟩ := List.mem_map.1 hzm
      obtain ⟨i, hi, rfl⟩ := List.mem_iff_getElem.1 hv
      obtain ⟨z, h1, h2⟩ := hz i hi
      rw [List.getElem?_eq_getElem hi] at h1
      simp at h1
      simp only [num, h1]
      exact h2
theorem SlOk.BL {H : Heap} {u : V} (h : SlOk [.bool] H u) : ∃ bs, Ar.BL H u bs ∧ SlG H 1 u ∧ bs.length ≤ maxLen := by
  rcases h with rfl | ⟨k, len, cs, rfl, hk, hl, hm, hx⟩
  · exact ⟨[], ⟨rfl, rfl⟩, trivial, by simp⟩
  · simp only [List.length_cons, List.length_nil, Nat.zero_add, Nat.mul_one] at hl
    have hz : ∀ i, i < cs.length → ∃ z, cs[i]? = some (.bool z) := fun i hi => by
      obtain ⟨e, he, hok⟩ := hx i _ (List.getElem?_eq_getElem hi)
      have h1 : i % 1 = 0 := Nat.mod_one i
      simp only [List.length_cons, List.length_nil, Nat.zero_add, h1, List.getElem?_cons_zero, Option.some.injEq] at he
      subst he
      obtain ⟨z, hz⟩ := hok
      exact ⟨z, by rw [List.getElem?_eq_getElem hi, hz]⟩
    let num : V → Bool := fun v => match v with | .bool n => n | _ => false
    have hcs : cs = (cs.map num).map .bool := by
      refine List.ext_getElem? fun i => ?_
      by_cases hi : i < cs.length
      · obtain ⟨z, h1⟩ := hz i hi
        simp [h1, num]
      · simp [List.getElem?_eq_none (by omega : cs.length ≤ i)]
    refine ⟨cs.map num, ⟨by simp [lenOf, hl], ?_⟩, ⟨Nat.le_refl _, cs, .ro, hk, .inl rfl⟩, by simp; omega⟩
    simp only [cellsOf, rdn, hk]
    rw [if_pos (by omega)]
    simp only [List.drop_zero]
    rw [List.take_of_length_le (by omega)]
    rw [← hcs]

theorem len_scalar {x : V} {n : Nat} (h : lenOf x = some n) : x.scalar = true := by
  cases x <;> simp [lenOf] at h <;> rfl
theorem wr1 {H : Heap} {k o : Nat} {cs : List V} {m : Mode} {v : V} (hk : H[k]? = some (.cells cs m)) (hm : m.wr = true) (ho : o < cs.length) (hv : v.scalar = true) : wr H k o [v] = some (H.set k (.cells (cs.set o v) m)) := by
  unfold wr
  rw [hk]
  simp only [hm]
  rw [if_neg (by simp), if_pos (by simp; omega), if_pos (by simp only [List.all_cons, List.all_nil, hv, Bool.and_true])]
  rfl

theorem wrAll {H : Heap} {k : Nat} {cs vs : List V} {m : Mode} (hk : H[k]? = some (.cells cs m)) (hm : m.wr = true) (hl : vs.length = cs.length) (hv : vs.all V.scalar = true) : wr H k 0 vs = some (H.set k (.cells vs m)) := by
  unfold wr
  rw [hk]
  simp only [hm]
  rw [if_neg (by simp), if_pos (by omega), if_pos hv]
  congr 3
  congr 1
  refine List.ext_getElem? fun i => ?_
  rw [getElem?_wrc vs cs 0 i (by omega)]
  by_cases hi : i < vs.length
  · rw [if_pos ⟨by omega, by omega⟩]; simp
  · rw [if_neg (by omega), List.getElem?_eq_none (by omega), List.getElem?_eq_none (by omega)]
theorem flatRep (n : Nat) (v : V) : (List.replicate n [v]).flatten = List.replicate n v := by
  induction n with
  | zero => rfl
  | succ n ih => simp [List.replicate_succ, ih]

/-! ### Under prot -/
theorem rd_prot {hide : List Nat} {H : Heap} {k o : Nat} {v : V} (hk : k ∉ hide) (h : rd H k o = some v) : rd (prot hide H) k o = some v := by
  unfold rd at h ⊢
  rw [getElem?_prot]
  split at h
  · rename_i cs m hb
    rw [hb]
    simp only [Option.map_some, if_neg hk]
    cases m <;> exact h
  · cases h
theorem rdn_prot {hide : List Nat} {H : Heap} {k o n : Nat} {v : List V} (hk : k ∉ hide) (h : rdn H k o n = some v) : rdn (prot hide H) k o n = some v := by
  unfold rdn at h ⊢
  rw [getElem?_prot]
  split at h
  · rename_i cs m hb
    rw [hb]
    simp only [Option.map_some, if_neg hk]
    cases m <;> exact h
  · cases h
theorem Rw.prot {hide : List Nat} {H : Heap} {sz n : Nat} {x : V} {cs : List V} (h : Rw H sz x n cs) (hk : ∀ k, x.blk? = some k → k ∉ hide) : Rw (prot hide H) sz x n cs := by
  refine ⟨h.len, ?_⟩
  have h2 := h.cells
  cases x <;> simp only [cellsOf] at h2 ⊢ <;> first | exact h2 | cases h2 | skip
  exact rdn_prot (hk _ rfl) h2
theorem BL.prot {hide : List Nat} {H : Heap} {x : V} {bs : List Bool} (h : BL H x bs) (hk : ∀ k, x.blk? = some k → k ∉ hide) : BL (Ar.prot hide H) x bs := Rw.prot h hk
theorem IL.prot {q : IntKind} {hide : List Nat} {H : Heap} {x : V} {zs : List Int} (h : IL q H x zs) (hk : ∀ k, x.blk? = some k → k ∉ hide) : IL q (Ar.prot hide H) x zs := Rw.prot h hk
/-- A call that reads alone, under prot. -/
theorem pcall_same {call : CallF} {hide : List Nat} {t : Tgt} {args : List V} {H : Heap} {v : V} (h : call t args (prot hide H) = some (v, prot hide H)) : pcall call hide t args H = some (v, H) := by
  unfold pcall
  rw [h]
  simp [length_prot, List.drop_eq_nil_of_le]
end Go.Ar
/- What a piece of code comes to: rules. -/
set_option linter.unusedSimpArgs false
set_option linter.unusedVariables false
namespace Go.Ar
variable {E : Env}

def WP (E : Env) (m : MC) (s : St) (Q : Ex → St → Prop) : Prop := ∃ e s', execL E m s = some (e, s') ∧ Q e s'
def After (Q : Ex → St → Prop) (N : St → Prop) : Ex → St → Prop
  | .normal, s => N s
  | e, s => Q e s
def InBlk (id : Nat) (Q : Ex → St → Prop) : Ex → St → Prop
  | .exit i, s => if i = id then Q .normal s else Q (.exit i) s
  | e, s => Q e s

theorem WP.mono {m : MC} {s : St} {Q Q' : Ex → St → Prop} (h : WP E m s Q) (hq : ∀ e s, Q e s → Q' e s) : WP E m s Q' := let ⟨e, s', h1, h2⟩ := h; ⟨e, s', h1, hq _ _ h2⟩
theorem wa_gen {m : MC} {τ : Nat → V} {H : Heap} {Q : Ex → St → Prop} (F : (Nat → V) → Prop) (hF : F τ) (h : ∀ τ', F τ' → WP E m ⟨τ', H⟩ Q) : WP E m ⟨τ, H⟩ Q := h τ hF
theorem wa_skip {s : St} {Q : Ex → St → Prop} (h : Q .normal s) : WP E .skip s Q := ⟨_, _, execL_skip, h⟩
theorem wa_exit {id : Nat} {s : St} {Q : Ex → St → Prop} (h : Q (.exit id) s) : WP E (.exit id) s Q := ⟨_, _, execL_exit, h⟩
theorem wa_ret {s : St} {Q : Ex → St → Prop} (h : Q .ret s) : WP E .ret s Q := ⟨_, _, execL_ret, h⟩
theorem wa_reg {ops : List Ins} {s s' : St} {Q : Ex → St → Prop} (h1 : insL (callL E) ops s = some s') (h2 : Q .normal s') : WP E (.reg ops) s Q := ⟨_, s', by rw [execL_reg, h1]; rfl, h2⟩
theorem wa_regs {ops : List Ins} {s : St} {Q : Ex → St → Prop} (h : ∃ s', insL (callL E) ops s = some s' ∧ Q .normal s') : WP E (.reg ops) s Q := let ⟨s', h1, h2⟩ := h; wa_reg h1 h2
theorem wa_dreg {nh : Nat} {ops : List (DM × Ins)} {chk : List Chk} {s s' : St} {Q : Ex → St → Prop} (h1 : dinsL (callL E) s.H.length ops ⟨s.τ, s.H ++ List.replicate nh .dead⟩ = some s')
    (h2 : chk.all (Chk.ok s.H.length nh s'.τ) = true) (h3 : Q .normal s') : WP E (.dreg nh ops chk) s Q := ⟨_, s', by rw [execL_dreg, h1]; simp only [afterDraw, h2, if_true], h3⟩
theorem wa_seq {a b : MC} {s : St} {Q : Ex → St → Prop} (h : WP E a s (After Q fun s' => WP E b s' Q)) : WP E (.seq a b) s Q := by
  obtain ⟨e, s1, h1, h2⟩ := h
  cases e with
  | normal =>
    obtain ⟨e2, s2, h3, h4⟩ := h2
    exact ⟨e2, s2, by rw [execL_seq, h1]; exact h3, h4⟩
  | exit i => exact ⟨.exit i, s1, by rw [execL_seq, h1]; rfl, h2⟩
  | ret => exact ⟨.ret, s1, by rw [execL_seq, h1]; rfl, h2⟩
theorem wa_cond {c : X} {a b : MC} {s : St} {t : Bool} {Q : Ex → St → Prop} (hc : ev s.τ c = .bool t) (h1 : t = true → WP E a s Q) (h2 : t = false → WP E b s Q) : WP E (.cond c a b) s Q := by
  cases t with
  | true => obtain ⟨e, s', h3, h4⟩ := h1 rfl; exact ⟨e, s', by rw [execL_cond hc]; exact h3, h4⟩
  | false => obtain ⟨e, s', h3, h4⟩ := h2 rfl; exact ⟨e, s', by rw [execL_cond hc]; exact h3, h4⟩
theorem wa_block {id : Nat} {a : MC} {s : St} {Q : Ex → St → Prop} (h : WP E a s (InBlk id Q)) : WP E (.block id a) s Q := by
  obtain ⟨e, s1, h1, h2⟩ := h
  cases e with
  | normal => exact ⟨_, s1, by rw [execL_block, h1]; rfl, h2⟩
  | ret => exact ⟨_, s1, by rw [execL_block, h1]; rfl, h2⟩
  | exit i =>
    simp only [InBlk] at h2
    by_cases hi : i = id
    · rw [if_pos hi] at h2
      exact ⟨.normal, s1, by rw [execL_block, h1]; simp [unblk, hi], h2⟩
    · rw [if_neg hi] at h2
      exact ⟨.exit i, s1, by rw [execL_block, h1]; simp [unblk, hi], h2⟩
/-- A loop: an invariant, with how many rounds there may be left. -/
theorem wa_loop {a : MC} {Q : Ex → St → Prop} (I : Nat → St → Prop) (round : ∀ m s, I m s → WP E a s (After Q fun s' => ∃ m', m' < m ∧ I m' s')) : ∀ (m : Nat) (s : St), I m s → WP E (.loop a) s Q := by
  intro m
  induction m using Nat.strongRecOn with
  | _ m ih =>
    intro s h
    obtain ⟨e, s1, h1, h2⟩ := round m s h
    cases e with
    | normal =>
      obtain ⟨m', hm, hI⟩ := h2
      obtain ⟨e2, s2, h3, h4⟩ := ih m' hm s1 hI
      exact ⟨e2, s2, by rw [execL_loop, h1]; exact h3, h4⟩
    | exit i => exact ⟨.exit i, s1, by rw [execL_loop, h1]; rfl, h2⟩
    | ret => exact ⟨.ret, s1, by rw [execL_loop, h1]; rfl, h2⟩

theorem wa_rangef {f : X} {ps : List Nat} {asg body : MC} {s : St} {Q : Ex → St → Prop} {g : Nat} {a b : List V} (hf : ev s.τ f = .fn g a b)
    (h : ∃ v H', callL E (.f g) (a ++ [.yld s.H.length] ++ b) (s.H ++ [.lp s.τ ps asg body .ready]) = some (v, H') ∧
      ∃ τ1 ps1 asg1 body1 st, H'[s.H.length]? = some (.lp τ1 ps1 asg1 body1 st) ∧ (match st with | .ready => Q .normal ⟨s.τ, H'.set s.H.length .dead⟩ | .done e => Q e ⟨s.τ, H'.set s.H.length .dead⟩ | .busy => False)) :
    WP E (.rangef f ps asg body) s Q := by
  obtain ⟨v, H', h1, τ1, ps1, asg1, body1, st, h2, h3⟩ := h
  have hr := execL_rangef (E := E) (f := f) (ps := ps) (asg := asg) (body := body) (s := s) (t := .f g) (a := a) (b := b) (by rw [hf]; rfl)
  rw [h1] at hr
  cases st with
  | ready => exact ⟨.normal, _, by rw [hr]; simp only [afterRange, h2], h3⟩
  | done e => exact ⟨e, _, by rw [hr]; simp only [afterRange, h2], h3⟩
  | busy => exact h3.elim
/-- One round. -/
theorem wa_round {k : Nat} {H : Heap} {τ : Nat → V} {ps : List Nat} {asg body : MC} {args : List V} {R : Bool → Heap → Prop} (hk : H[k]? = some (.lp τ ps asg body .ready)) (hl : args.length = ps.length)
    (h : WP E asg ⟨setps τ ps args, H⟩ fun e s => e = .normal ∧ ∃ τ1 ps1 asg1 body1, s.H[k]? = some (.lp τ1 ps1 asg1 body1 .ready) ∧
      WP E body ⟨s.τ, s.H.set k (.lp τ1 ps1 asg1 body1 .busy)⟩ fun e s2 => ∃ τ2 ps2 asg2 body2, s2.H[k]? = some (.lp τ2 ps2 asg2 body2 .busy) ∧
        R (decide (e = .normal)) (s2.H.set k (.lp τ2 ps2 asg2 body2 (if e = .normal then .ready else .done e)))) :
    ∃ b H', callL E (.y k) args H = some (.bool b, H') ∧ R b H' := by
  obtain ⟨e, s, h1, rfl, τ1, ps1, asg1, body1, h2, e2, s2, h3, τ2, ps2, asg2, body2, h4, h5⟩ := h
  refine ⟨_, _, ?_, h5⟩
  rw [callL_y hk hl, h1]
  simp only [aBegin, beginRound, h2]
  rw [h3]
  simp only [endRound, h4]

/-- What a function answers, out of its body. -/
theorem wa_finish {fc : FC} {s : St} {Q : V → Heap → Prop} (h : WP E fc.body s fun e s' => (∀ i, e ≠ .exit i) ∧ ∃ vs, resL s'.τ s'.H fc.res = some vs ∧ Q (pack vs) s'.H) : ∃ v H', finish fc (execL E fc.body s) = some (v, H') ∧ Q v H' := by
  obtain ⟨e, s', h1, h2, vs, h3, h4⟩ := h
  refine ⟨pack vs, s'.H, ?_, h4⟩
  rw [h1]
  cases e with
  | exit i => exact absurd rfl (h2 i)
  | normal => simp [finish, h3]
  | ret => simp [finish, h3]
end Go.Ar
/- Tools for walks: registers, counted loops, heaps by what is owned. -/
set_option linter.unusedSimpArgs false
set_option linter.unusedVariables false
namespace Go.Ar
variable {E : Env}

/-- What some registers hold. -/
def Rg (τ : Nat → V) : List (Nat × V) → Prop
  | [] => True
  | p :: L => τ p.1 = p.2 ∧ Rg τ L
theorem wa_rg {m : MC} {τ : Nat → V} {H : Heap} {Q : Ex → St → Prop} (L : List (Nat × V)) (h : Rg τ L) (k : ∀ τ', Rg τ' L → WP E m ⟨τ', H⟩ Q) : WP E m ⟨τ, H⟩ Q := k τ h
theorem Rg.upd {τ : Nat → V} {d : Nat} {v : V} : ∀ {L : List (Nat × V)}, Rg τ L → (∀ p ∈ L, p.1 ≠ d) → Rg (Ar.upd τ d v) L
  | [], _, _ => trivial
  | p :: L, h, hn => ⟨by simp only [Ar.upd]; rw [show (p.1 == d) = false by simpa using hn p (by simp)]; exact h.1, Rg.upd h.2 fun q hq => hn q (by simp [hq])⟩

theorem wa_sr {ops : List Ins} {b : MC} {s : St} {Q : Ex → St → Prop} (h : ∃ s', insL (callL E) ops s = some s' ∧ WP E b s' Q) : WP E (.seq (.reg ops) b) s Q :=
  let ⟨s', h1, h2⟩ := h; wa_seq (wa_reg h1 h2)
theorem wa_as {a b c : MC} {s : St} {Q : Ex → St → Prop} (h : WP E (.seq a (.seq b c)) s Q) : WP E (.seq (.seq a b) c) s Q := by
  obtain ⟨e, s', h1, h2⟩ := h
  refine ⟨e, s', ?_, h2⟩
  rw [← h1]
  simp only [execL_seq]
  cases execL E a s with
  | none => rfl
  | some r => obtain ⟨e1, s1⟩ := r; cases e1 <;> simp [andThen]
theorem wa_sk {r : MC} {s : St} {Q : Ex → St → Prop} (h : WP E r s Q) : WP E (.seq .skip r) s Q := wa_seq (wa_skip h)
theorem wa_rt {r : MC} {s : St} {Q : Ex → St → Prop} (h : Q .ret s) : WP E (.seq .ret r) s Q := wa_seq (wa_ret h)
theorem wa_ex {i : Nat} {r : MC} {s : St} {Q : Ex → St → Prop} (h : Q (.exit i) s) : WP E (.seq (.exit i) r) s Q := wa_seq (wa_exit h)
/-- A piece, with what is known behind it. -/
theorem wa_cut {a b : MC} {s : St} {Q : Ex → St → Prop} (P : St → Prop) (h : WP E a s (After Q P)) (h2 : ∀ s', P s' → WP E b s' Q) : WP E (.seq a b) s Q := by
  refine wa_seq (h.mono fun e s' hq => ?_)
  cases e with
  | normal => exact h2 s' hq
  | exit i => exact hq
  | ret => exact hq

theorem w64 {x : Int} (h1 : -9223372036854775808 ≤ x) (h2 : x < 9223372036854775808) : IntKind.i64.wrap x = x := by
  simp [IntKind.wrap, IntKind.bits, IntKind.signed]; omega

/-! ### Code, made flat -/
def MC.app : MC → MC → MC
  | .seq a b, c => MC.app a (MC.app b c)
  | .skip, c => c
  | a, c => .seq a c
def MC.norm : MC → MC
  | .seq a b => MC.app (MC.norm a) (MC.norm b)
  | .cond c a b => .cond c (MC.norm a) (MC.norm b)
  | .block id a => .block id (MC.norm a)
  | .loop a => .loop (MC.norm a)
  | a => a

theorem andThen_assoc (r : Out) (f g : St → Out) : andThen (andThen r f) g = andThen r (fun s => andThen (f s) g) := by
  rcases r with _ | ⟨e, s⟩
  · rfl
  · cases e <;> rfl
theorem execL_app : ∀ (a c : MC) (s : St), execL E (MC.app a c) s = andThen (execL E a s) (execL E c)
  | .seq a b, c, s => by
    simp only [MC.app, execL_app a, execL_seq, andThen_assoc]
    congr 1; funext s'; exact execL_app b c s'
  | .skip, c, s => by simp [MC.app, execL_skip, andThen]
  | .reg _, c, s => by simp only [MC.app, execL_seq]
  | .dreg _ _ _, c, s => by simp only [MC.app, execL_seq]
  | .cond _ _ _, c, s => by simp only [MC.app, execL_seq]
  | .block _ _, c, s => by simp only [MC.app, execL_seq]
  | .loop _, c, s => by simp only [MC.app, execL_seq]
  | .exit _, c, s => by simp only [MC.app, execL_seq]
  | .ret, c, s => by simp only [MC.app, execL_seq]
  | .rangef _ _ _ _, c, s => by simp only [MC.app, execL_seq]
theorem loop_imp {a b : MC} (h : ∀ s, execL E a s = execL E b s) (s : St) (x : Ex × St) (hx : execL E (.loop a) s = some x) : execL E (.loop b) s = some x := by
  obtain ⟨n, hn⟩ := execL_iff.1 hx
  simp only [exec] at hn
  have key : ∀ (k : Nat) (s : St), iter k (exec (callN E n) n a) s = some x → execL E (.loop b) s = some x := by
    intro k
    induction k with
    | zero => intro s h; simp [iter] at h
    | succ k ih =>
      intro s hs
      simp only [iter] at hs
      rw [execL_loop, ← h]
      rcases andThen_iff.1 hs with ⟨s1, h1, h2⟩ | ⟨h1, h2⟩
      · rw [execL_iff.2 ⟨n, h1⟩]; exact ih s1 h2
      · rw [execL_iff.2 ⟨n, h1⟩]
        obtain ⟨e, s2⟩ := x
        cases e with
        | normal => exact absurd rfl h2
        | exit i => rfl
        | ret => rfl
  exact key n s hn
theorem execL_cond' (c : X) (a b : MC) (s : St) : execL E (.cond c a b) s = match ev s.τ c with | .bool t => cond t (execL E a s) (execL E b s) | _ => none := by
  cases hc : ev s.τ c with
  | bool t => exact execL_cond hc
  | _ =>
    refine ext_iff fun r => ?_
    rw [execL_iff]
    simp only [exec, hc]; simp
theorem execL_norm : ∀ (m : MC) (s : St), execL E (MC.norm m) s = execL E m s
  | .seq a b, s => by
    simp only [MC.norm, execL_app, execL_seq, execL_norm a]
    congr 1; funext s'; exact execL_norm b s'
  | .cond c a b, s => by simp only [MC.norm, execL_cond', execL_norm a, execL_norm b]
  | .block id a, s => by simp only [MC.norm, execL_block, execL_norm a]
  | .loop a, s => ext_iff fun x => ⟨loop_imp (execL_norm a) s x, loop_imp (fun s => (execL_norm a s).symm) s x⟩
  | .skip, s | .reg _, s | .dreg _ _ _, s | .exit _, s | .ret, s | .rangef _ _ _ _, s => by simp only [MC.norm]
theorem wa_norm {m m' : MC} {s : St} {Q : Ex → St → Prop} (hm : MC.norm m = m') (h : WP E m' s Q) : WP E m s Q := by
  subst hm
  obtain ⟨e, s', h1, h2⟩ := h
  exact ⟨e, s', by rw [← execL_norm]; exact h1, h2⟩

theorem wa_if {c : X} {a b r : MC} {s : St} {t : Bool} {Q : Ex → St → Prop} (hc : ev s.τ c = .bool t) (h1 : t = true → WP E (MC.app a r) s Q) (h2 : t = false → WP E (MC.app b r) s Q) : WP E (.seq (.cond c a b) r) s Q := by
  cases t with
  | true => obtain ⟨e, s', h3, h4⟩ := h1 rfl; exact ⟨e, s', by rw [execL_seq, execL_cond hc]; rw [execL_app] at h3; exact h3, h4⟩
  | false => obtain ⟨e, s', h3, h4⟩ := h2 rfl; exact ⟨e, s', by rw [execL_seq, execL_cond hc]; rw [execL_app] at h3; exact h3, h4⟩

/-- A counted loop. -/
theorem ev_upd {τ : Nat → V} {d : Nat} {v : V} {x : X} (h : x.tmps.contains d = false) : ev (upd τ d v) x = ev τ x := by
  cases x with
  | c v => rfl
  | t n =>
    have : (n == d) = false := by
      by_cases e : n = d
      · subst e; simp [X.tmps] at h
      · simpa using e
    simp only [ev, upd, this, cond_false]
theorem wa_for {K : IntKind} {c d e i1 i2 : Nat} {bx : X} {body : MC} {n : Nat} {Y : Type} (R : Nat → Y → List (Nat × V)) (P : Nat → Y → Heap → Prop) {Q : Ex → St → Prop} {τ : Nat → V} {H : Heap} (y : Y)
    (hcb : (c == d) = false ∧ (c == e) = false ∧ bx.tmps.contains c = false ∧ bx.tmps.contains d = false ∧ bx.tmps.contains e = false)
    (hw : ∀ i : Nat, i < n → K.wrap ((i : Int) + 1) = (i : Int) + 1) (hc : τ c = .int K 0) (hb : ev τ bx = .int K n) (h0 : Rg τ (R 0 y)) (hp : P 0 y H)
    (hR : ∀ i y p, p ∈ R i y → p.1 ≠ c ∧ p.1 ≠ d ∧ p.1 ≠ e)
    (step : ∀ i y τ H, i < n → τ c = .int K i → ev τ bx = .int K n → Rg τ (R i y) → P i y H →
      WP E body ⟨τ, H⟩ (InBlk i2 (After (InBlk i1 Q) fun s => s.τ c = .int K i ∧ ev s.τ bx = .int K n ∧ ∃ y', Rg s.τ (R (i + 1) y') ∧ P (i + 1) y' s.H)))
    (last : ∀ y τ H, Rg τ (R n y) → P n y H → Q .normal ⟨τ, H⟩) :
    WP E (.block i1 (.loop (.seq (.reg [⟨some d, .bin .lss (.t c) bx, none⟩]) (.seq (.cond (.t d) .skip (.exit i1)) (.seq (.block i2 body) (.reg [⟨some e, .bin .add (.t c) (.c (.int K 1)), none⟩, ⟨some c, .mv (.t e), none⟩])))))) ⟨τ, H⟩ Q := by
  obtain ⟨q5, q6, b1, b2, b3⟩ := hcb
  refine wa_block (wa_loop (fun m s => ∃ i y, m = n - i ∧ i ≤ n ∧ s.τ c = .int K i ∧ ev s.τ bx = .int K n ∧ Rg s.τ (R i y) ∧ P i y s.H) ?_ n _ ⟨0, y, by omega, by omega, hc, hb, h0, hp⟩)
  rintro m ⟨τ, H⟩ ⟨i, y, hm, hi, hc, hb, hr, hP⟩
  simp only at hc hb hr hP
  have hop : ∀ t, decide ((i : Int) < n) = t → insL (callL E) [⟨some d, .bin .lss (.t c) bx, none⟩] ⟨τ, H⟩ = some ⟨upd τ d (.bool t), H⟩ := fun t ht => by
    subst ht
    simp only [insL, ins, wanted, aop_bin, hb]
    simp [hc]
  by_cases hlt : i < n
  · refine wa_sr ⟨⟨upd τ d (.bool true), H⟩, hop true (by simpa using hlt), ?_⟩
    refine wa_if (t := true) (by simp) (fun _ => ?_) (fun h => by cases h)
    have h1 := step i y (upd τ d (.bool true)) H hlt (by simp [q5, hc]) (by rw [ev_upd b2]; exact hb) (hr.upd fun p hp => (hR i y p hp).2.1) hP
    obtain ⟨ex, s1, h2, h3⟩ := wa_block h1
    cases ex with
    | normal =>
      obtain ⟨h4, h5, y', h6, h7⟩ := h3
      obtain ⟨τ1, H1⟩ := s1
      simp only at h4 h5 h6 h7
      refine wa_seq ⟨.normal, ⟨τ1, H1⟩, h2, ?_⟩
      refine wa_regs ⟨⟨upd (upd τ1 e (.int K ((i : Int) + 1))) c (.int K ((i : Int) + 1)), H1⟩, by simp [h4, hw i hlt], ?_⟩
      exact ⟨n - (i + 1), by omega, i + 1, y', rfl, by omega, by simp, by simp only; rw [ev_upd b1, ev_upd b3]; exact h5, (h6.upd fun p hp => (hR _ _ p hp).2.2).upd fun p hp => (hR _ _ p hp).1, h7⟩
    | exit j => exact wa_seq ⟨.exit j, s1, h2, h3⟩
    | ret => exact wa_seq ⟨.ret, s1, h2, h3⟩
  · have hin : i = n := by omega
    subst hin
    refine wa_sr ⟨⟨upd τ d (.bool false), H⟩, hop false (by simp), ?_⟩
    refine wa_if (t := false) (by simp) (fun h => by cases h) (fun _ => wa_ex ?_)
    simp only [After, InBlk, if_true]
    exact last y _ H (hr.upd fun p hp => (hR _ _ p hp).2.1) hP

/-! ### Heaps -/
/-- Behind a heap: what is owned; what lay there before is as it was. -/
structure Hp (H0 H : Heap) (L : List (Nat × Blk)) : Prop where
  le : H0.length ≤ H.length
  old : ∀ k, k < H0.length → H[k]? = H0[k]?
  own : ∀ p, p ∈ L → H0.length ≤ p.1 ∧ H[p.1]? = some p.2
  nd : (L.map Prod.fst).Nodup
namespace Hp
variable {H0 H H' : Heap} {L L' : List (Nat × Blk)} {k : Nat} {b b' : Blk}
theorem refl (H : Heap) : Hp H H [] := ⟨Nat.le_refl _, fun _ _ => rfl, fun p hp => by simp at hp, List.nodup_nil⟩
theorem r (h : Hp H0 H L) (i : Nat) (hi : L[i]? = some (k, b)) : H[k]? = some b := (h.own _ (List.mem_of_getElem? hi)).2
theorem ge (h : Hp H0 H L) (i : Nat) (hi : L[i]? = some (k, b)) : H0.length ≤ k := (h.own _ (List.mem_of_getElem? hi)).1
theorem lt (h : Hp H0 H L) (i : Nat) (hi : L[i]? = some (k, b)) : k < H.length := (List.getElem?_eq_some_iff.1 (h.r i hi)).1
theorem a (h : Hp H0 H L) (b : Blk) : Hp H0 (H ++ [b]) ((H.length, b) :: L) := by
  refine ⟨by simp; have := h.le; omega, fun k hk => by rw [List.getElem?_append_left (by have := h.le; omega)]; exact h.old k hk, fun p hp => ?_, ?_⟩
  · rcases List.mem_cons.1 hp with rfl | hp
    · exact ⟨h.le, by simp⟩
    · obtain ⟨h1, h2⟩ := h.own p hp
      exact ⟨h1, by rw [List.getElem?_append_left (List.getElem?_eq_some_iff.1 h2).1]; exact h2⟩
  · rw [List.map_cons, List.nodup_cons]
    refine ⟨fun hm => ?_, h.nd⟩
    obtain ⟨p, hp, he⟩ := List.mem_map.1 hm
    have := (List.getElem?_eq_some_iff.1 (h.own p hp).2).1
    simp only at he
    omega
theorem w (h : Hp H0 H L) (i : Nat) (hi : L[i]? = some (k, b)) (b' : Blk) : Hp H0 (H.set k b') (L.set i (k, b')) := by
  have hk := h.lt i hi
  have hg := h.ge i hi
  have hlt : i < L.length := (List.getElem?_eq_some_iff.1 hi).1
  have hmap : (L.set i (k, b')).map Prod.fst = L.map Prod.fst := by
    rw [List.map_set]
    refine List.ext_getElem? fun j => ?_
    by_cases e : i = j
    · subst e
      rw [List.getElem?_set_self (by simpa using hlt)]
      simp [hi]
    · rw [List.getElem?_set_ne e]
  refine ⟨by simpa using h.le, fun j hj => by rw [List.getElem?_set_ne (by omega)]; exact h.old j hj, fun p hp => ?_, by rw [hmap]; exact h.nd⟩
  obtain ⟨j, hj⟩ := List.mem_iff_getElem?.1 hp
  by_cases e : i = j
  · subst e
    rw [List.getElem?_set_self hlt] at hj
    cases hj
    exact ⟨hg, List.getElem?_set_self hk⟩
  · rw [List.getElem?_set_ne e] at hj
    obtain ⟨h1, h2⟩ := h.own p (List.mem_of_getElem? hj)
    refine ⟨h1, ?_⟩
    have hne : k ≠ p.1 := fun he => by
      have h3 := h.nd
      have hjl : j < L.length := (List.getElem?_eq_some_iff.1 hj).1
      have h4 := List.pairwise_iff_getElem.1 h3
      have hi' : L[i] = (k, b) := by rw [List.getElem?_eq_getElem hlt] at hi; simpa using hi
      have hj' : L[j] = p := by rw [List.getElem?_eq_getElem hjl] at hj; simpa using hj
      rcases Nat.lt_or_gt_of_ne e with hij | hij
      · exact h4 i j (by simpa using hlt) (by simpa using hjl) hij (by simp [hi', hj', he])
      · exact h4 j i (by simpa using hjl) (by simpa using hlt) hij (by simp [hi', hj', he])
    rw [List.getElem?_set_ne hne]
    exact h2
theorem x (h : Hp H0 H L) (h' : Hp H H' L') : Hp H0 H' (L' ++ L) := by
  refine ⟨Nat.le_trans h.le h'.le, fun k hk => by rw [h'.old k (by have := h.le; omega)]; exact h.old k hk, fun p hp => ?_, ?_⟩
  · rcases List.mem_append.1 hp with hp | hp
    · obtain ⟨h1, h2⟩ := h'.own p hp
      exact ⟨by have := h.le; omega, h2⟩
    · obtain ⟨h1, h2⟩ := h.own p hp
      exact ⟨h1, by rw [h'.old _ (List.getElem?_eq_some_iff.1 h2).1]; exact h2⟩
  · rw [List.map_append, List.nodup_append]
    refine ⟨h'.nd, h.nd, fun a ha b hb => ?_⟩
    obtain ⟨p, hp, rfl⟩ := List.mem_map.1 ha
    obtain ⟨q, hq, rfl⟩ := List.mem_map.1 hb
    have h1 := (h'.own p hp).1
    have h2 := (List.getElem?_eq_some_iff.1 (h.own q hq).2).1
    omega
theorem sub (h : Hp H0 H L) (hs : L'.Sublist L) : Hp H0 H L' := ⟨h.le, h.old, fun p hp => h.own p (hs.subset hp), (hs.map _).nodup h.nd⟩
theorem perm (h : Hp H0 H L) (hs : L'.Perm L) : Hp H0 H L' := ⟨h.le, h.old, fun p hp => h.own p (hs.subset hp), (hs.map _).nodup_iff.2 h.nd⟩
theorem r0 {p : Nat × Blk} (h : Hp H0 H (p :: L)) : H[p.1]? = some p.2 := h.r 0 rfl
theorem r1 {p q : Nat × Blk} (h : Hp H0 H (q :: p :: L)) : H[p.1]? = some p.2 := h.r 1 rfl
theorem r2 {p q1 q2 : Nat × Blk} (h : Hp H0 H (q1 :: q2 :: p :: L)) : H[p.1]? = some p.2 := h.r 2 rfl
theorem r3 {p q1 q2 q3 : Nat × Blk} (h : Hp H0 H (q1 :: q2 :: q3 :: p :: L)) : H[p.1]? = some p.2 := h.r 3 rfl
theorem r4 {p q1 q2 q3 q4 : Nat × Blk} (h : Hp H0 H (q1 :: q2 :: q3 :: q4 :: p :: L)) : H[p.1]? = some p.2 := h.r 4 rfl
theorem w0 (h : Hp H0 H ((k, b) :: L)) (b' : Blk) : Hp H0 (H.set k b') ((k, b') :: L) := h.w 0 rfl b'
theorem w1 {p : Nat × Blk} (h : Hp H0 H (p :: (k, b) :: L)) (b' : Blk) : Hp H0 (H.set k b') (p :: (k, b') :: L) := h.w 1 rfl b'
theorem w2 {p q : Nat × Blk} (h : Hp H0 H (p :: q :: (k, b) :: L)) (b' : Blk) : Hp H0 (H.set k b') (p :: q :: (k, b') :: L) := h.w 2 rfl b'
theorem w3 {p q r : Nat × Blk} (h : Hp H0 H (p :: q :: r :: (k, b) :: L)) (b' : Blk) : Hp H0 (H.set k b') (p :: q :: r :: (k, b') :: L) := h.w 3 rfl b'
theorem w4 {p q r t : Nat × Blk} (h : Hp H0 H (p :: q :: r :: t :: (k, b) :: L)) (b' : Blk) : Hp H0 (H.set k b') (p :: q :: r :: t :: (k, b') :: L) := h.w 4 rfl b'
theorem tl {p : Nat × Blk} (h : Hp H0 H (p :: L)) : Hp H0 H L := h.sub (List.sublist_cons_self _ _)
end Hp

theorem Rw.lt {H : Heap} {sz len : Nat} {x : V} {cs : List V} (h : Rw H sz x len cs) : ∀ k, x.blk? = some k → k < H.length := by
  intro k hk
  have h2 := h.cells
  cases x <;> simp [V.blk?] at hk
  all_goals subst hk
  case ptr => simp [cellsOf] at h2
  case map => simp [cellsOf] at h2
  simp only [cellsOf] at h2
  obtain ⟨⟨b, hb, _⟩, _⟩ := rdn_at h2
  exact (List.getElem?_eq_some_iff.1 hb).1
theorem Hp.rw {H0 H : Heap} {L : List (Nat × Blk)} (h : Hp H0 H L) {sz len : Nat} {x : V} {cs : List V} (hx : Rw H0 sz x len cs) : Rw H sz x len cs := hx.frame fun k hk => h.old k (hx.lt k hk)
theorem Hp.il {H0 H : Heap} {L : List (Nat × Blk)} (h : Hp H0 H L) {q : IntKind} {x : V} {zs : List Int} (hx : IL q H0 x zs) : IL q H x zs := h.rw hx
theorem Hp.bl {H0 H : Heap} {L : List (Nat × Blk)} (h : Hp H0 H L) {x : V} {zs : List Bool} (hx : BL H0 x zs) : BL H x zs := h.rw hx
theorem SlG.lt {H : Heap} {sz : Nat} {x : V} (h : SlG H sz x) : ∀ k, x.blk? = some k → k < H.length := by
  intro k hk
  cases x <;> simp [V.blk?] at hk
  all_goals subst hk
  case ptr => exact h.elim
  case map => exact h.elim
  obtain ⟨_, cs, m, h2, _⟩ := h
  exact (List.getElem?_eq_some_iff.1 h2).1
theorem Hp.slG {H0 H : Heap} {L : List (Nat × Blk)} (h : Hp H0 H L) {sz : Nat} {x : V} (hx : SlG H0 sz x) : SlG H sz x := hx.frame fun k hk => h.old k (hx.lt k hk)

/-! ### Rows that are owned -/
theorem IL.own {q : IntKind} {H : Heap} {k c : Nat} {zs : List Int} {m : Mode} (h : H[k]? = some (.cells (zs.map (.int q)) m)) : IL q H (.sl k 0 zs.length c) zs := by
  refine ⟨rfl, ?_⟩
  simp only [cellsOf, rdn, h]
  rw [if_pos (by simp)]
  simp only [List.drop_zero, Nat.mul_one]
  rw [List.take_of_length_le (by simp)]
theorem BL.own {H : Heap} {k c : Nat} {zs : List Bool} {m : Mode} (h : H[k]? = some (.cells (zs.map .bool) m)) : BL H (.sl k 0 zs.length c) zs := by
  refine ⟨rfl, ?_⟩
  simp only [cellsOf, rdn, h]
  rw [if_pos (by simp)]
  simp only [List.drop_zero, Nat.mul_one]
  rw [List.take_of_length_le (by simp)]
theorem rdI {q : IntKind} {H : Heap} {k : Nat} {zs : List Int} {m : Mode} (h : H[k]? = some (.cells (zs.map (.int q)) m)) {i : Nat} (hi : i < zs.length) : rd H k i = some (.int q (zs.getD i 0)) := by
  simp [rd, h, hi]
theorem rdB {H : Heap} {k : Nat} {zs : List Bool} {m : Mode} (h : H[k]? = some (.cells (zs.map .bool) m)) {i : Nat} (hi : i < zs.length) : rd H k i = some (.bool (zs.getD i false)) := by
  simp [rd, h, hi]
theorem wrI {q : IntKind} {H : Heap} {k : Nat} {zs : List Int} {m : Mode} (h : H[k]? = some (.cells (zs.map (.int q)) m)) (hm : m.wr = true) {i : Nat} (hi : i < zs.length) (v : Int) :
    wr H k i [.int q v] = some (H.set k (.cells ((zs.set i v).map (.int q)) m)) := by
  rw [List.map_set]
  exact wr1 h hm (by simpa using hi) rfl
theorem wrB {H : Heap} {k : Nat} {zs : List Bool} {m : Mode} (h : H[k]? = some (.cells (zs.map .bool) m)) (hm : m.wr = true) {i : Nat} (hi : i < zs.length) (v : Bool) :
    wr H k i [.bool v] = some (H.set k (.cells ((zs.set i v).map .bool) m)) := by
  rw [List.map_set]
  exact wr1 h hm (by simpa using hi) rfl

/-! ### Rows that grow -/
/-- The block of a row that append made. -/
def gb (sz : Nat) (x : V) (cs : List V) : List (Nat × Blk) := match x with | .sl k _ _ _ => [(k, .cells cs (.gr sz))] | _ => []
/-- A row that append made. -/
def Gr (x : V) (n : Nat) : Prop := (x = .nils ∧ n = 0) ∨ ∃ k, x = .sl k 0 n n

theorem append_ok {H0 H : Heap} {L : List (Nat × Blk)} {sz by' n m : Nat} {x y : V} {cs ys : List V} (h : Hp H0 H (gb sz x cs ++ L)) (hg : Gr x n) (hc : cs.length = n * sz) (hy : lenOf y = some m) (hys : cellsOf H sz y = some ys) (hs : ys.all V.scalar = true)
    (hm : 0 < m) (hb : (n + m) * by' ≤ 2 ^ 40) (hl : n + m ≤ lim) :
    ∃ x' H', appendv H sz by' x y = some (x', H') ∧ Gr x' (n + m) ∧ Hp H0 H' (gb sz x' (cs ++ ys) ++ L) ∧ H'.length = H.length + 1 := by
  rcases hg with ⟨rfl, rfl⟩ | ⟨k, rfl⟩
  · have hcs : cs = [] := List.eq_nil_of_length_eq_zero (by omega)
    subst hcs
    refine ⟨.sl H.length 0 m m, H ++ [.cells ys (.gr sz)], ?_, .inr ⟨H.length, by simp⟩, ?_, by simp⟩
    · unfold appendv
      simp only [hy, hys, hs]
      rw [if_neg (by simp), if_neg (by omega), if_pos (by rw [Nat.zero_add] at hb hl; exact ⟨hb, hl⟩)]
    · have := h.a (.cells ys (.gr sz))
      simpa [gb] using this
  · have hk := h.r 0 (k := k) (b := .cells cs (.gr sz)) rfl
    refine ⟨.sl H.length 0 (n + m) (n + m), H.set k .dead ++ [.cells (cs ++ ys) (.gr sz)], ?_, .inr ⟨H.length, rfl⟩, ?_, by simp⟩
    · unfold appendv
      simp only [hy, hys, hs]
      rw [if_neg (by simp)]
      simp only [hk]
      rw [if_pos (by omega), if_neg (by omega), if_pos ⟨hb, hl⟩, if_pos ⟨trivial, trivial⟩, List.take_of_length_le (by omega)]
    · have h1 : Hp H0 (H.set k .dead) L := (Hp.w0 (h : Hp H0 H ((k, .cells cs (.gr sz)) :: L)) .dead).tl
      have := h1.a (.cells (cs ++ ys) (.gr sz))
      simpa [gb] using this
/-- One more element: laid in a row of its own, then appended. -/
theorem push_ok {H0 H : Heap} {L : List (Nat × Blk)} {sz by' n : Nat} {x : V} {cs vs : List V} (h : Hp H0 H (gb sz x cs ++ L)) (hg : Gr x n) (hc : cs.length = n * sz) (hv : vs.length = sz) (hs : vs.all V.scalar = true)
    (hb : (n + 1) * by' ≤ 2 ^ 40) (hl : n + 1 ≤ lim) :
    ∃ x' H', appendv (H ++ [.cells vs .ex]) sz by' x (.sl H.length 0 1 1) = some (x', H') ∧ Gr x' (n + 1) ∧ Hp H0 H' (gb sz x' (cs ++ vs) ++ L) ∧ H.length ≤ H'.length := by
  obtain ⟨x', H', h1, h2, h3, h4⟩ := append_ok (h.a (.cells vs .ex)).tl hg hc (y := .sl H.length 0 1 1) (m := 1) (ys := vs) rfl (by simp [cellsOf, rdn, hv]; rw [List.take_of_length_le (by omega)]) hs (by omega) hb hl
  exact ⟨x', H', h1, h2, h3, by rw [h4]; simp; omega⟩
theorem Gr.il {H0 H : Heap} {L : List (Nat × Blk)} {x : V} {n : Nat} {q : IntKind} {zs : List Int} (h : Hp H0 H (gb 1 x (zs.map (.int q)) ++ L)) (hg : Gr x n) (hl : zs.length = n) : IL q H x zs := by
  rcases hg with ⟨rfl, rfl⟩ | ⟨k, rfl⟩
  · have : zs = [] := List.eq_nil_of_length_eq_zero hl
    subst this
    exact ⟨rfl, rfl⟩
  · have := h.r 0 (k := k) (b := .cells (zs.map (.int q)) (.gr 1)) rfl
    subst hl
    exact IL.own this
end Go.Ar
/- Arguments, all of a row opened: cells, slices, structs of such. -/
set_option linter.unusedSimpArgs false
set_option linter.unusedVariables false
namespace Go.Ar
open Go.RowKit Go.WideShapes Go.ChangeShapes
variable {Hd : Type} {enc : TypeId × Value → Hd} {P : Program}

/-- What one cell may be: a number or a bool; a slice of flat things. -/
inductive CK where
  | k (e : KE)
  | s (ks : List KE)
def CK.ok (H : Heap) : CK → V → Prop
  | .k e, u => e.ok u
  | .s ks, u => SlOk ks H u
def ckOf (P : Program) (t : TypeId) : Option CK :=
  match P.underlying t with
  | some (.int q) => some (.k (.int q))
  | some .bool => some (.k .bool)
  | some (.slice e) => match flatT P e with
    | some ks => if P.cellsOf e = ks.length then some (.s ks) else none
    | none => none
  | _ => none
inductive AK where
  | c (q : CK)
  | st (qs : List CK)
def cksOk (H : Heap) : List CK → List V → Prop
  | [], [] => True
  | c :: cs, u :: us => c.ok H u ∧ cksOk H cs us
  | _, _ => False
def AK.ok (H : Heap) : AK → V → Prop
  | .c q, u => q.ok H u
  | .st qs, u => ∃ us, u = .agg us ∧ cksOk H qs us
def okAll (H : Heap) : List AK → List V → Prop
  | [], [] => True
  | a :: ys, u :: us => a.ok H u ∧ okAll H ys us
  | _, _ => False
def fieldsOf (P : Program) : List Field → Nat → Option (List CK)
  | [], _ => some []
  | f :: fs, i => if f.offset = i ∧ P.cellsOf f.type = 1 then (match ckOf P f.type, fieldsOf P fs (i + 1) with | some k, some ks => some (k :: ks) | _, _ => none) else none
def akOf (P : Program) (t : TypeId) : Option AK :=
  match P.underlying t with
  | some (.struct fs) => if P.cellsOf t = fs.size ∧ P.cellTypes P.depth t = some (fs.toList.map (·.type)) then (fieldsOf P fs.toList 0).map .st else none
  | some (.array _ _) => none
  | _ => (ckOf P t).map .c
def aksOf (P : Program) : List TypeId → Option (List AK)
  | [] => some []
  | t :: ts => match akOf P t, aksOf P ts with | some a, some ys => some (a :: ys) | _, _ => none

theorem SlOk.mono {ks : List KE} {H H' : Heap} {u : V} (h : SlOk ks H u) : SlOk ks (H ++ H') u := by
  rcases h with rfl | ⟨k, len, cs, rfl, hk, hl, hm, hx⟩
  · exact .inl rfl
  · exact .inr ⟨k, len, cs, rfl, by rw [List.getElem?_append_left (List.getElem?_eq_some_iff.1 hk).1]; exact hk, hl, hm, hx⟩
theorem CK.mono {H H' : Heap} {u : V} : ∀ {c : CK}, c.ok H u → c.ok (H ++ H') u
  | .k _, h => h
  | .s _, h => SlOk.mono h
theorem cksOk.mono {H H' : Heap} : ∀ {cs : List CK} {us : List V}, cksOk H cs us → cksOk (H ++ H') cs us
  | [], [], _ => trivial
  | _ :: _, _ :: _, h => ⟨CK.mono h.1, cksOk.mono h.2⟩
theorem AK.mono {H H' : Heap} {u : V} : ∀ {c : AK}, c.ok H u → c.ok (H ++ H') u
  | .c _, h => CK.mono h
  | .st _, ⟨us, h1, h2⟩ => ⟨us, h1, h2.mono⟩

variable {w : World}

theorem ke1_of {t : TypeId} {k : KE} (h : ckOf P t = some (.k k)) : ke1 P t = some k := by
  unfold ckOf at h
  unfold ke1
  split at h <;> (try split at h) <;> (try split at h) <;> simp_all

theorem open_cell {base : Nat} {sp : Nat → Bool} {held : Bool} {ρ : Rho} {H : Heap} (hS : Sim P w.heap.size w ρ H [] w) {t : TypeId} {c : CK} (hc : ckOf P t = some c) {r : Reach} {b0 : Nat} {v : Value}
    (hok : Cell.okWide P w r b0 t v) {fuel : Nat} {x : DataW Hd × List MemPlace} (h : DataW.trod enc P w base sp held fuel t [v] = some x) :
    ∃ (ρ' : Rho) (H' : Heap) (u : V), Sim P w.heap.size w ρ' (H ++ H') [] w ∧ RLe ρ ρ' ∧ R ρ' u v ∧ c.ok (H ++ H') u := by
  cases c with
  | k e =>
    obtain ⟨v', h1, h2⟩ := ke1_open (ke1_of hc) h
    cases h1
    refine ⟨ρ, [], absS v, by simpa using hS, fun _ _ h => h, ?_, by simpa [CK.ok] using KE.absS h2⟩
    exact absS_ok _ _
  | s ks =>
    unfold ckOf at hc
    split at hc
    · cases hc
    · cases hc
    · rename_i e he
      split at hc
      case h_2 => cases hc
      rename_i ks' hks
      split at hc
      case isFalse => cases hc
      rename_i hlen
      cases hc
      obtain ⟨ρ', H', u, h1, h2, h3, h4, _⟩ := open_slice hS he hks hlen hok h
      exact ⟨ρ', H', u, h1, h2, h3, h4⟩
    · cases hc

theorem open_cells {base : Nat} {sp : Nat → Bool} {held : Bool} {r : Reach} {b0 : Nat} : ∀ {ts : List TypeId} {qs : List CK} {cs : List Value} {ρ : Rho} {H : Heap}, Sim P w.heap.size w ρ H [] w → ts.length = qs.length → cs.length = qs.length →
    (∀ (i : Nat) t v, ts[i]? = some t → cs[i]? = some v → Cell.okWide P w r b0 t v ∧ ∃ fuel x, DataW.trod enc P w base sp held fuel t [v] = some x) → (∀ (i : Nat) t, ts[i]? = some t → ∃ q, qs[i]? = some q ∧ ckOf P t = some q) →
    ∃ (ρ' : Rho) (H' : Heap) (us : List V), Sim P w.heap.size w ρ' (H ++ H') [] w ∧ RLe ρ ρ' ∧ RL ρ' us cs ∧ cksOk (H ++ H') qs us
  | [], [], [], ρ, H, hS, _, _, _, _ => ⟨ρ, [], [], by simpa using hS, fun _ _ h => h, RL.nil _, trivial⟩
  | t :: ts, q :: qs, v :: cs, ρ, H, hS, hl1, hl2, hv, hq => by
    obtain ⟨hok, fuel, x, hx⟩ := hv 0 t v rfl rfl
    obtain ⟨q', hq1, hq2⟩ := hq 0 t rfl
    simp at hq1; subst hq1
    obtain ⟨ρ1, H1, u, a1, a2, a3, a4⟩ := open_cell hS hq2 hok hx
    obtain ⟨ρ2, H2, us, b1, b2, b3, b4⟩ := open_cells (ts := ts) (qs := qs) (cs := cs) a1 (by simpa using hl1) (by simpa using hl2) (fun i t v h1 h2 => hv (i + 1) t v (by simpa using h1) (by simpa using h2)) (fun i t h => by simpa using hq (i + 1) t (by simpa using h))
    refine ⟨ρ2, H1 ++ H2, u :: us, by simpa using b1, fun _ _ h => b2 _ _ (a2 _ _ h), RL.cons (a3.mono b2) b3, ?_, by simpa using b4⟩
    have := CK.mono a4 (H' := H2)
    simpa using this
  | [], _ :: _, _, _, _, _, h, _, _, _ => by simp at h
  | _ :: _, [], _, _, _, _, h, _, _, _ => by simp at h
  | _, [], _ :: _, _, _, _, _, h, _, _ => by simp at h
  | _, _ :: _, [], _, _, _, _, h, _, _ => by simp at h

theorem fieldsOf_get : ∀ {fs : List Field} {i : Nat} {ks : List CK}, fieldsOf P fs i = some ks → ks.length = fs.length ∧ ∀ (j : Nat) (f : Field), fs[j]? = some f → f.offset = i + j ∧ P.cellsOf f.type = 1 ∧ ∃ k, ks[j]? = some k ∧ ckOf P f.type = some k
  | [], i, ks, h => by cases h; exact ⟨rfl, fun j f h => by simp at h⟩
  | f :: fs, i, ks, h => by
    simp only [fieldsOf] at h
    split at h
    case isFalse => cases h
    rename_i hc
    split at h
    case h_2 => cases h
    rename_i k ks' h1 h2
    cases h
    obtain ⟨h3, h4⟩ := fieldsOf_get h2
    refine ⟨by simp [h3], fun j g hg => ?_⟩
    cases j with
    | zero => simp at hg; subst hg; exact ⟨by simpa using hc.1, hc.2, k, rfl, h1⟩
    | succ j =>
      simp at hg
      obtain ⟨a, b, c, d, e⟩ := h4 j g hg
      exact ⟨by omega, b, c, by simpa using d, e⟩

theorem open_arg {base : Nat} {sp : Nat → Bool} {held : Bool} {ρ : Rho} {H : Heap} (hS : Sim P w.heap.size w ρ H [] w) {t : TypeId} {a : AK} (ha : akOf P t = some a) {r : Reach} {b0 : Nat} {v : Value} {d : DataW Hd} {ps : List MemPlace}
    (hok : Value.okWide P w r b0 t v) (h : DataW.Trod enc P w base sp held t v d ps) :
    ∃ (ρ' : Rho) (H' : Heap) (u : V), Sim P w.heap.size w ρ' (H ++ H') [] w ∧ RLe ρ ρ' ∧ R ρ' u v ∧ a.ok (H ++ H') u := by
  obtain ⟨fuel, h⟩ := h
  unfold akOf at ha
  split at ha
  · rename_i fs hu
    split at ha
    case isFalse => cases ha
    rename_i hc
    obtain ⟨hc1, hc2⟩ := hc
    simp only [Option.map_eq_some_iff] at ha
    obtain ⟨qs, hqs, rfl⟩ := ha
    obtain ⟨hl, hg⟩ := fieldsOf_get hqs
    unfold Value.okWide at hok
    rw [hu] at hok
    obtain ⟨cs, rfl, hcs, ts, hts, hmul, hrow⟩ := hok
    rw [hc2] at hts
    cases hts
    obtain ⟨xs, n, _, _, hlen, hxl, hx⟩ := DataW.trod_struct hu h
    have hcl : cs.toList.length = qs.length := by rw [hl]; simp; omega
    have hlen' : cs.size = fs.size := by omega
    obtain ⟨ρ', H', us, b1, b2, b3, b4⟩ := open_cells (enc := enc) (base := base) (sp := sp) (held := held) (r := r) (b0 := b0) (ts := fs.toList.map (·.type)) (qs := qs) (cs := cs.toList) hS (by simp [hl]) hcl (fun i t v h1 h2 => by
      rw [List.getElem?_map, Option.map_eq_some_iff] at h1
      obtain ⟨f, hf, rfl⟩ := h1
      obtain ⟨g1, g2, k, g3, g4⟩ := hg i f hf
      have hi : i < fs.size := by have := (List.getElem?_eq_some_iff.1 hf).1; simpa using this
      refine ⟨?_, n, ?_⟩
      · obtain ⟨u, hu1, hu2⟩ := hrow i v (by simpa using h2)
        simp only [List.length_map, Array.length_toList] at hu1
        rw [Nat.mod_eq_of_lt hi, List.getElem?_map, hf] at hu1
        simp at hu1; subst hu1
        exact hu2
      · have hxi := hx i f (by simpa using hf)
        have : ((cs.toList.drop f.offset).take (P.cellsOf f.type)) = [v] := by
          rw [g1, g2, Nat.zero_add]
          have hi2 := (List.getElem?_eq_some_iff.1 h2)
          obtain ⟨hi3, hi4⟩ := hi2
          rw [List.drop_eq_getElem_cons hi3, hi4]
          rfl
        have hcc : (Value.agg cs).cells.toList = cs.toList := rfl
        rw [hcc, this] at hxi
        rw [hxi]
        exact ⟨xs[i]'(by omega), List.getElem?_eq_getElem _⟩) (fun i t h1 => by
      rw [List.getElem?_map, Option.map_eq_some_iff] at h1
      obtain ⟨f, hf, rfl⟩ := h1
      obtain ⟨g1, g2, k, g3, g4⟩ := hg i f hf
      exact ⟨k, g3, g4⟩)
    exact ⟨ρ', H', .agg us, b1, b2, R.agg b3.1 b3.2, us, rfl, b4⟩
  · cases ha
  · rename_i h1 h2
    simp only [Option.map_eq_some_iff] at ha
    obtain ⟨c, hc, rfl⟩ := ha
    have hok' : Cell.okWide P w r b0 t v := okWide_cell hok (by
      split
      · rename_i fs hf; exact absurd hf (h1 fs)
      · rename_i a b hf; exact absurd hf (h2 a b)
      · rfl)
    have hv : v.cells.toList = [v] := by
      unfold ckOf at hc
      cases v <;> first | rfl | skip
      all_goals
        exfalso
        rename_i cs
        simp only [Cell.okWide] at hok'
        split at hc
        · rename_i q hu; rw [hu] at hok'; simp [Cell.ok, hu] at hok'
        · rename_i hu; rw [hu] at hok'; simp [Cell.ok, hu] at hok'
        · rename_i e hu; rw [hu] at hok'; simp [Cell.ok, hu] at hok'
        · cases hc
    rw [hv] at h
    exact open_cell hS hc hok' h

theorem open_args {base : Nat} {sp : Nat → Bool} {held : Bool} {r : Reach} {b0 : Nat} : ∀ {ts : List TypeId} {ys : List AK} {vs : List Value} {ds : List (DataW Hd)} {ps : List MemPlace} {ρ : Rho} {H : Heap}, Sim P w.heap.size w ρ H [] w → aksOf P ts = some ys →
    (∀ (i : Nat) t v, ts[i]? = some t → vs[i]? = some v → Value.okWide P w r b0 t v) → DataW.TrodAll enc P w base sp held ts vs ds ps →
    ∃ (ρ' : Rho) (H' : Heap) (us : List V), Sim P w.heap.size w ρ' (H ++ H') [] w ∧ RLe ρ ρ' ∧ RL ρ' us vs ∧ okAll (H ++ H') ys us
  | [], ys, vs, ds, ps, ρ, H, hS, ha, _, h => by
    cases ha
    obtain ⟨rfl, rfl, rfl⟩ := trodAll_nil h
    exact ⟨ρ, [], [], by simpa using hS, fun _ _ h => h, RL.nil _, trivial⟩
  | t :: ts, ys, vs, ds, ps, ρ, H, hS, ha, hv, h => by
    obtain ⟨v, vs', d, ds', p, q, rfl, rfl, rfl, h1, h2⟩ := trodAll_cons h
    simp only [aksOf] at ha
    split at ha
    case h_2 => cases ha
    rename_i a ys' e1 e2
    cases ha
    obtain ⟨ρ1, H1, u, a1, a2, a3, a4⟩ := open_arg hS e1 (hv 0 t v rfl rfl) h1
    obtain ⟨ρ2, H2, us, b1, b2, b3, b4⟩ := open_args a1 e2 (fun i t v h1 h2 => hv (i + 1) t v (by simpa using h1) (by simpa using h2)) h2
    refine ⟨ρ2, H1 ++ H2, u :: us, by simpa using b1, fun _ _ h => b2 _ _ (a2 _ _ h), RL.cons (a3.mono b2) b3, ?_, by simpa using b4⟩
    have := AK.mono a4 (H' := H2)
    simpa using this

/-- A law, over whatever is handed in. -/
def Law (P : Program) (E : Env) (g : Nat) (ts : List TypeId) : Prop := ∃ ys, aksOf P ts = some ys ∧ ∀ H us, okAll H ys us → ∃ v H', callL E (.f g) us H = some (v, H') ∧ v = .bool true
theorem law_walk (hm : P.follows .mixedOrders = true) {E : Env} (hE : EnvOk P E) {g : Nat} {ts : List TypeId} (hl : Law P E g ts) {W : World} {r : Reach} {b0 base : Nat} {sp : Nat → Bool} {held : Bool} {args : Array Value} {ds : List (DataW Hd)} {ps : List MemPlace}
    (hv : ∀ (i : Nat) t v, ts[i]? = some t → args[i]? = some v → Value.okWide P W r b0 t v) (h : DataW.TrodAll enc P W base sp held ts args.toList ds ps) :
    Calls P g args W fun e W' => e = .returned (.bool true) ∧ Below W.heap.size W W' := by
  obtain ⟨ys, ha, hlaw⟩ := hl
  obtain ⟨ρ, H, us, a1, _, a3, a4⟩ := open_args (Sim.empty W) ha (fun i t v h1 h2 => hv i t v h1 (by simpa using h2)) h
  obtain ⟨v, H', hc, rfl⟩ := hlaw _ _ a4
  exact walk_of hm hE hc a1 a3
end Go.Ar
/- More rules for walks: loops by a test; regions that draw their order, but lay nothing. -/
set_option linter.unusedSimpArgs false
set_option linter.unusedVariables false
namespace Go.Ar
variable {E : Env}

/-- A loop by a test: an invariant, with how many rounds there may be left. -/
theorem wa_while {pre post : List Ins} {c : Nat} {i1 i2 : Nat} {body : MC} {Q : Ex → St → Prop} (I : Nat → St → Prop) (m : Nat) {s : St} (h0 : I m s)
    (step : ∀ m s, I m s → ∃ s1 t, insL (callL E) pre s = some s1 ∧ s1.τ c = .bool t ∧
      (t = true → WP E body s1 (InBlk i2 (After (InBlk i1 Q) fun s2 => ∃ s3, insL (callL E) post s2 = some s3 ∧ ∃ m', m' < m ∧ I m' s3))) ∧ (t = false → Q .normal s1)) :
    WP E (.block i1 (.loop (.seq (.reg pre) (.seq (.cond (.t c) .skip (.exit i1)) (.seq (.block i2 body) (.reg post)))))) s Q := by
  refine wa_block (wa_loop I ?_ m s h0)
  intro m s hI
  obtain ⟨s1, t, h1, h2, h3, h4⟩ := step m s hI
  refine wa_sr ⟨s1, h1, ?_⟩
  refine wa_if (t := t) h2 (fun ht => ?_) (fun ht => ?_)
  · obtain ⟨ex, s2, h5, h6⟩ := wa_block (h3 ht)
    cases ex with
    | normal =>
      obtain ⟨s3, h7, h8⟩ := h6
      exact wa_seq ⟨.normal, s2, h5, wa_reg h7 h8⟩
    | exit j => exact wa_seq ⟨.exit j, s2, h5, h6⟩
    | ret => exact wa_seq ⟨.ret, s2, h5, h6⟩
  · refine wa_ex ?_
    simp only [After, InBlk, if_true]
    exact h4 ht

theorem dinsL_plain {call : CallF} {N : Nat} : ∀ {ops : List (DM × Ins)} {s : St}, (ops.all fun o => match o.1 with | .plain => true | _ => false) = true → dinsL call N ops s = insL call (ops.map (·.2)) s
  | [], s, _ => rfl
  | o :: ops, s, h => by
    simp only [List.all_cons, Bool.and_eq_true] at h
    obtain ⟨d, x⟩ := o
    cases d with
    | plain =>
      simp only [dinsL, List.map_cons, insL, dins]
      congr 1
      funext s'
      exact dinsL_plain h.2
    | hole j => simp at h
    | pcall l => simp at h
/-- A region that draws its order, and lays nothing new: as it stands. -/
theorem wa_dr {ops : List (DM × Ins)} {is : List Ins} {b : MC} {s : St} {Q : Ex → St → Prop} (hp : (ops.all fun o => match o.1 with | .plain => true | _ => false) = true) (hi : ops.map (·.2) = is)
    (h : ∃ s', insL (callL E) is s = some s' ∧ WP E b s' Q) : WP E (.seq (.dreg 0 ops []) b) s Q := by
  obtain ⟨s', h1, h2⟩ := h
  refine wa_seq (wa_dreg (s' := s') ?_ rfl h2)
  subst hi
  rw [dinsL_plain hp]
  simpa using h1

/-- A row laid anew: 'append' to one of no cells. -/
theorem appnew_ok {H : Heap} {sz by' m : Nat} {y : V} {ys : List V} (hy : lenOf y = some m) (hys : cellsOf H sz y = some ys) (hyb : ∀ k, y.blk? = some k → k < H.length) (hs : ys.all V.scalar = true) (hl : ys.length = m * sz)
    (hb : m * by' ≤ 2 ^ 40) (hm : m ≤ lim) :
    ∃ x' H', appendv (H ++ [.cells [] .ex]) sz by' (.sl H.length 0 0 0) y = some (x', H') ∧ ((m = 0 ∧ x' = .sl H.length 0 0 0 ∧ H' = H ++ [.cells [] .ex]) ∨ (0 < m ∧ x' = .sl (H.length + 1) 0 m m ∧ H' = H ++ [.cells [] .ex] ++ [.cells ys (.gr sz)])) := by
  have hys' : cellsOf (H ++ [.cells [] .ex]) sz y = some ys := by
    cases y with
    | sl k o l c =>
      simp only [cellsOf, rdn] at hys ⊢
      rw [List.getElem?_append_left (hyb k rfl)]
      exact hys
    | _ => exact hys
  have hk : (H ++ [Blk.cells [] .ex])[H.length]? = some (.cells [] .ex) := by simp
  unfold appendv
  simp only [hy, hys', hs, hk]
  rw [if_neg (by simp), if_pos (by simp)]
  by_cases h0 : m = 0
  · subst h0
    have : ys = [] := List.eq_nil_of_length_eq_zero (by omega)
    subst this
    refine ⟨.sl H.length 0 0 0, H ++ [.cells [] .ex], ?_, .inl ⟨rfl, rfl, rfl⟩⟩
    rw [if_pos (by omega)]
    simp [wr, wrc, Mode.wr]
  · refine ⟨.sl (H.length + 1) 0 m m, H ++ [.cells [] .ex] ++ [.cells ys (.gr sz)], ?_, .inr ⟨by omega, rfl, rfl⟩⟩
    rw [if_neg (by omega), if_pos (by simpa using ⟨hb, hm⟩)]
    simp
end Go.Ar
/- Several functions of no arguments that answer true, as summaries. -/
set_option linter.unusedSimpArgs false
set_option linter.unusedVariables false
namespace Go.Ar
variable {P : Program}

def yesL (ks : List Nat) : Nat → Option (List V → Heap → Option (V × Heap)) := fun g => if ks.contains g then yes g g else none
def envL (P : Program) (ks : List Nat) : Env := ⟨codeOf P, yesL ks⟩
theorem envL_ok (hm : P.follows .mixedOrders = true) {ks : List Nat} (h : ∀ k, k ∈ ks → ∃ n H1, callN (env0 P) n (.f k) [] [] = some (.bool true, H1)) : EnvOk P (envL P ks) := by
  refine ⟨codeOf_ok, fun g f args H v H' hs hf => ?_⟩
  have hs' : yesL ks g = some f := hs
  unfold yesL at hs'
  split at hs'
  case isFalse => cases hs'
  rename_i hg
  obtain ⟨n, H1, hn⟩ := h g (by simpa using hg)
  exact (envY_ok hm (k := g) hn).2 g f args H v H' hs' hf
theorem call_L {ks : List Nat} {g : Nat} {fc : FC} {gc : MC} (hg : ks.contains g = false) (hC : codeOf P g = some fc) (hn : fc.body.norm = gc) {args : List V} (hl : args.length = fc.nargs) {H : Heap} {Q : V → Heap → Prop}
    (h : WP (envL P ks) gc ⟨args0 args, H⟩ fun e s' => (∀ i, e ≠ .exit i) ∧ ∃ vs, resL s'.τ s'.H fc.res = some vs ∧ Q (pack vs) s'.H) : ∃ v H', callL (envL P ks) (.f g) args H = some (v, H') ∧ Q v H' := by
  rw [callL_f (E := envL P ks) (by have : yesL ks g = none := by unfold yesL; rw [if_neg (by rw [hg]; simp)]
                                   exact this) hC hl]
  exact wa_finish (wa_norm hn h)
/-- A function's flat code, with what it takes and answers. -/
def nc (P : Program) (g : Nat) : Option (Nat × List RV × MC) := (codeOf P g).map fun fc => (fc.nargs, fc.res, fc.body.norm)
theorem call_N {ks : List Nat} {g n : Nat} {rs : List RV} {gc : MC} (hg : ks.contains g = false) (hC : nc P g = some (n, rs, gc)) {args : List V} (hl : args.length = n) {H : Heap} {Q : V → Heap → Prop}
    (h : WP (envL P ks) gc ⟨args0 args, H⟩ fun e s' => (∀ i, e ≠ .exit i) ∧ ∃ vs, resL s'.τ s'.H rs = some vs ∧ Q (pack vs) s'.H) : ∃ v H', callL (envL P ks) (.f g) args H = some (v, H') ∧ Q v H' := by
  unfold nc at hC
  cases hc : codeOf P g with
  | none => rw [hc] at hC; cases hC
  | some fc =>
    rw [hc] at hC
    simp only [Option.map_some, Option.some.injEq, Prod.mk.injEq] at hC
    obtain ⟨h1, rfl, h3⟩ := hC
    exact call_L hg hc h3 (by rw [hl, h1]) h
theorem call_yesL {ks : List Nat} {k : Nat} (hk : ks.contains k = true) {H : Heap} : callL (envL P ks) (.f k) [] H = some (.bool true, H) := by
  have h : (envL P ks).S k = yesL ks k := rfl
  unfold yesL at h
  unfold yes at h
  rw [if_pos hk, if_pos rfl] at h
  rw [callL_S h]
end Go.Ar
/- Heaps that grow behind: simp's rules; functions that lay only what is not looked at any more. -/
set_option linter.unusedSimpArgs false
set_option linter.unusedVariables false
namespace Go.Ar
variable {E : Env}

theorem rd_app0 {H G : Heap} {o : Nat} : rd (H ++ G) H.length o = rd G 0 o := by
  simp only [rd]; rw [List.getElem?_append_right (Nat.le_refl _)]; simp
theorem rd_appn {H G : Heap} {i o : Nat} : rd (H ++ G) (H.length + i) o = rd G i o := by
  simp only [rd]; rw [List.getElem?_append_right (Nat.le_add_right _ _)]; simp
theorem rdn_app0 {H G : Heap} {o n : Nat} : rdn (H ++ G) H.length o n = rdn G 0 o n := by
  simp only [rdn]; rw [List.getElem?_append_right (Nat.le_refl _)]; simp
theorem rdn_appn {H G : Heap} {i o n : Nat} : rdn (H ++ G) (H.length + i) o n = rdn G i o n := by
  simp only [rdn]; rw [List.getElem?_append_right (Nat.le_add_right _ _)]; simp
theorem rd_c0 {cs : List V} {m : Mode} {G : Heap} {o : Nat} : rd (.cells cs m :: G) 0 o = cs[o]? := rfl
theorem rd_cs {b : Blk} {G : Heap} {i o : Nat} : rd (b :: G) (i + 1) o = rd G i o := rfl
theorem rdn_c0 {cs : List V} {m : Mode} {G : Heap} {o n : Nat} : rdn (.cells cs m :: G) 0 o n = if o + n ≤ cs.length then some ((cs.drop o).take n) else none := rfl
theorem rdn_cs {b : Blk} {G : Heap} {i o n : Nat} : rdn (b :: G) (i + 1) o n = rdn G i o n := rfl
theorem wr_appn {H G : Heap} {i o : Nat} {vs : List V} : wr (H ++ G) (H.length + i) o vs = (wr G i o vs).map fun G' => H ++ G' := by
  simp only [wr]
  rw [List.getElem?_append_right (Nat.le_add_right _ _)]
  simp only [Nat.add_sub_cancel_left]
  cases hg : G[i]? with
  | none => rfl
  | some b =>
    cases b with
    | cells cs m =>
      simp only
      split
      · rfl
      · split
        · split
          · simp [List.set_append_right]
          · rfl
        · rfl
    | _ => rfl
theorem wr_app0 {H G : Heap} {o : Nat} {vs : List V} : wr (H ++ G) H.length o vs = (wr G 0 o vs).map fun G' => H ++ G' := wr_appn (i := 0)
theorem wr_c0 {cs : List V} {m : Mode} {G : Heap} {o : Nat} {vs : List V} : wr (.cells cs m :: G) 0 o vs = if m.wr = false then none else if o + vs.length ≤ cs.length then (if vs.all V.scalar then some (.cells (wrc cs o vs) m :: G) else none) else none := rfl
theorem wr_cs {b : Blk} {G : Heap} {i o : Nat} {vs : List V} : wr (b :: G) (i + 1) o vs = (wr G i o vs).map fun G' => b :: G' := by
  simp only [wr, List.getElem?_cons_succ]
  cases hg : G[i]? with
  | none => rfl
  | some c =>
    cases c with
    | cells cs m =>
      simp only
      split
      · rfl
      · split
        · split
          · rfl
          · rfl
        · rfl
    | _ => rfl
theorem ex_wr : Mode.wr .ex = true := rfl
theorem gr_wr (n : Nat) : Mode.wr (.gr n) = true := rfl
theorem sc_bool (b : Bool) : (V.bool b).scalar = true := rfl
theorem sc_int (k : IntKind) (n : Int) : (V.int k n).scalar = true := rfl
theorem sc_nilp : V.nilp.scalar = true := rfl
theorem sc_ptr (k o : Nat) : (V.ptr k o).scalar = true := rfl
theorem sc_nils : V.nils.scalar = true := rfl
theorem sc_es : V.es.scalar = true := rfl
theorem sc_sl (k o n c : Nat) : (V.sl k o n c).scalar = true := rfl
theorem sc_nilm : V.nilm.scalar = true := rfl
theorem sc_map (k : Nat) : (V.map k).scalar = true := rfl
theorem sc_nilf : V.nilf.scalar = true := rfl
theorem sc_fn (f : Nat) (a b : List V) : (V.fn f a b).scalar = true := rfl
theorem wrc_nil (cs : List V) (o : Nat) : wrc cs o ([] : List V) = cs := rfl
theorem wrc_cons (cs : List V) (o : Nat) (v : V) (vs : List V) : wrc cs o (v :: vs) = wrc (cs.set o v) (o + 1) vs := rfl
attribute [simp] rd_app0 rd_appn rdn_app0 rdn_appn rd_c0 rd_cs rdn_c0 rdn_cs wr_appn wr_app0 wr_c0 wr_cs ex_wr gr_wr sc_bool sc_int sc_nilp sc_ptr sc_nils sc_es sc_sl sc_nilm sc_map sc_nilf sc_fn wrc_nil wrc_cons

/-- A function that answers v, and lays behind only what nobody looks at. -/
def Pc (E : Env) (g : Nat) (args : List V) (H : Heap) (v : V) : Prop := ∃ f : Heap → Heap, ∀ G, callL E (.f g) args (H ++ G) = some (v, H ++ (G ++ f G))
theorem Pc.mk {g : Nat} {args : List V} {H : Heap} {v : V} (h : ∀ G, ∃ v' H', callL E (.f g) args (H ++ G) = some (v', H') ∧ v' = v ∧ ∃ G', H' = H ++ G ++ G') : Pc E g args H v := by
  have h' : ∀ G, ∃ G', callL E (.f g) args (H ++ G) = some (v, H ++ (G ++ G')) := fun G => by
    obtain ⟨v', H', h1, rfl, G', rfl⟩ := h G
    exact ⟨G', by rw [h1, List.append_assoc]⟩
  exact ⟨fun G => Classical.choose (h' G), fun G => Classical.choose_spec (h' G)⟩
theorem Pc.app {g : Nat} {args : List V} {H : Heap} {v : V} (h : Pc E g args H v) (G0 : Heap) : Pc E g args (H ++ G0) v := by
  obtain ⟨f, hf⟩ := h
  exact ⟨fun G => f (G0 ++ G), fun G => by rw [List.append_assoc, hf]; simp⟩
theorem Pc.run {g : Nat} {args : List V} {H : Heap} {v : V} (h : Pc E g args H v) : ∃ G', callL E (.f g) args H = some (v, H ++ G') := by
  obtain ⟨f, hf⟩ := h
  have := hf []
  simp only [List.append_nil, List.nil_append] at this
  exact ⟨_, this⟩

theorem Rw.app {H : Heap} {sz n : Nat} {x : V} {cs : List V} (h : Rw H sz x n cs) (G : Heap) : Rw (H ++ G) sz x n cs := h.frame fun k hk => List.getElem?_append_left (h.lt k hk)
theorem IL.app {q : IntKind} {H : Heap} {x : V} {zs : List Int} (h : IL q H x zs) (G : Heap) : IL q (H ++ G) x zs := Rw.app h G
theorem BL.app {H : Heap} {x : V} {zs : List Bool} (h : BL H x zs) (G : Heap) : BL (H ++ G) x zs := Rw.app h G
theorem SlG.app {H : Heap} {sz : Nat} {x : V} (h : SlG H sz x) (G : Heap) : SlG (H ++ G) sz x := h.frame fun k hk => List.getElem?_append_left (h.lt k hk)
theorem Hp.app (H G : Heap) : Hp H (H ++ G) [] := ⟨by simp, fun k hk => List.getElem?_append_left hk, fun p hp => by simp at hp, List.nodup_nil⟩
/-- What lies over a heap is that heap, and more. -/
theorem Hp.eq {H0 H : Heap} {L : List (Nat × Blk)} (h : Hp H0 H L) : ∃ G, H = H0 ++ G := by
  refine ⟨H.drop H0.length, List.ext_getElem? fun k => ?_⟩
  by_cases hk : k < H0.length
  · rw [List.getElem?_append_left hk]; exact h.old k hk
  · rw [List.getElem?_append_right (by omega), List.getElem?_drop]
    congr 1; omega

/-! ### Arcs, nets -/
structure Arc where
  src : Int
  dst : Int
  cap : Int
  deriving DecidableEq
def Arc.cells (a : Arc) : List V := [.int .i64 a.src, .int .i64 a.dst, .int .i64 a.cap]
def AL (H : Heap) (x : V) (l : List Arc) : Prop := Rw H 3 x l.length (l.flatMap Arc.cells)
theorem AL.app {H : Heap} {x : V} {l : List Arc} (h : AL H x l) (G : Heap) : AL (H ++ G) x l := Rw.app h G
theorem arcs_cell (l : List Arc) : ∀ (i j : Nat) (a : Arc), l[i]? = some a → j < 3 → (l.flatMap Arc.cells)[i * 3 + j]? = a.cells[j]? := by
  induction l with
  | nil => intro i j a h; simp at h
  | cons b l ih =>
    intro i j a h hj
    simp only [List.flatMap_cons]
    cases i with
    | zero =>
      simp at h; subst h
      rw [List.getElem?_append_left (by simp [Arc.cells]; omega)]
      simp
    | succ i =>
      simp at h
      rw [List.getElem?_append_right (by simp [Arc.cells]; omega)]
      have : (i + 1) * 3 + j - (Arc.cells b).length = i * 3 + j := by simp [Arc.cells]; omega
      rw [this]; exact ih i j a h hj
theorem AL.at {H : Heap} {x : V} {l : List Arc} (h : AL H x l) {i : Nat} (hi : i < l.length) : ∃ k o c, x = .sl k o l.length c ∧ k < H.length ∧ (∀ G, rdn (H ++ G) k (o + i * 3) 3 = some (l[i].cells)) ∧ rdn H k (o + i * 3) 3 = some (l[i].cells) := by
  obtain ⟨k, o, c, rfl, _⟩ := Rw.at h hi
  have hk := Rw.lt h k rfl
  have base : rdn H k (o + i * 3) 3 = some (l[i].cells) := by
    have h2 := h.cells
    have hsz := h.size
    simp only [cellsOf, rdn] at h2 ⊢
    split at h2
    · rename_i ds m hb
      split at h2
      · rename_i hle
        have hcs := Option.some.inj h2
        rw [if_pos (by omega)]
        congr 1
        refine List.ext_getElem? fun j => ?_
        by_cases hj : j < 3
        · rw [List.getElem?_take, if_pos hj, List.getElem?_drop]
          have h3 := arcs_cell l i j l[i] (List.getElem?_eq_getElem hi) hj
          rw [← h3, ← hcs, List.getElem?_take, if_pos (by omega), List.getElem?_drop]
          congr 1; omega
        · rw [List.getElem?_eq_none (by simp; omega), List.getElem?_eq_none (by simp [Arc.cells]; omega)]
      · cases h2
    · cases h2
  refine ⟨k, o, c, rfl, hk, fun G => ?_, base⟩
  rw [← base]
  simp only [rdn]
  rw [List.getElem?_append_left hk]
end Go.Ar
/- Regions that draw their order, in pieces; calls with nothing to be written, of functions that lay only what nobody looks at. -/
set_option linter.unusedSimpArgs false
set_option linter.unusedVariables false
namespace Go.Ar
variable {E : Env}

def DW (call : CallF) (N : Nat) (ops : List (DM × Ins)) (s : St) (K : St → Prop) : Prop := ∃ s', dinsL call N ops s = some s' ∧ K s'
theorem wa_dw {nh : Nat} {ops : List (DM × Ins)} {chk : List Chk} {b : MC} {s : St} {Q : Ex → St → Prop}
    (h : DW (callL E) s.H.length ops ⟨s.τ, s.H ++ List.replicate nh .dead⟩ fun s' => chk.all (Chk.ok s.H.length nh s'.τ) = true ∧ WP E b s' Q) : WP E (.seq (.dreg nh ops chk) b) s Q := by
  obtain ⟨s', h1, h2, h3⟩ := h
  exact wa_seq (wa_dreg h1 h2 h3)
theorem dinsL_append {call : CallF} {N : Nat} : ∀ (a b : List (DM × Ins)) (s : St), dinsL call N (a ++ b) s = (dinsL call N a s).bind (dinsL call N b)
  | [], b, s => rfl
  | x :: a, b, s => by
    simp only [List.cons_append, dinsL]
    cases dins call N x s with
    | none => rfl
    | some s1 => exact dinsL_append a b s1
theorem DW.cut {call : CallF} {N : Nat} {ops : List (DM × Ins)} {s : St} {K : St → Prop} (n : Nat) (h : ∃ s1, dinsL call N (ops.take n) s = some s1 ∧ DW call N (ops.drop n) s1 K) : DW call N ops s K := by
  obtain ⟨s1, h1, s2, h2, h3⟩ := h
  refine ⟨s2, ?_, h3⟩
  have := dinsL_append (call := call) (N := N) (ops.take n) (ops.drop n) s
  rw [List.take_append_drop] at this
  rw [this, h1]; exact h2
theorem DW.cutP {call : CallF} {N : Nat} {ops : List (DM × Ins)} {s : St} {K : St → Prop} (n : Nat) (P : St → Prop) (h1 : ∃ s1, dinsL call N (ops.take n) s = some s1 ∧ P s1) (h2 : ∀ s1, P s1 → DW call N (ops.drop n) s1 K) : DW call N ops s K := by
  obtain ⟨s1, h3, h4⟩ := h1
  exact DW.cut n ⟨s1, h3, h2 s1 h4⟩
theorem DW.rg {call : CallF} {N : Nat} {ops : List (DM × Ins)} {τ : Nat → V} {H : Heap} {K : St → Prop} (L : List (Nat × V)) (h : Rg τ L) (k : ∀ τ', Rg τ' L → DW call N ops ⟨τ', H⟩ K) : DW call N ops ⟨τ, H⟩ K := k τ h

theorem pcall_run {call : CallF} {hide : List Nat} {t : Tgt} {args : List V} {H G : Heap} {v : V} (h : call t args (prot hide H) = some (v, prot hide H ++ G)) : pcall call hide t args H = some (v, H ++ G) := by
  unfold pcall
  rw [h]
  simp [length_prot]
theorem prot_append0 (A B : Heap) : prot [] (A ++ B) = prot [] A ++ prot [] B := by
  refine List.ext_getElem? fun k => ?_
  rw [getElem?_prot]
  by_cases hk : k < A.length
  · rw [List.getElem?_append_left hk, List.getElem?_append_left (by rw [length_prot]; exact hk), getElem?_prot]
  · rw [List.getElem?_append_right (by omega), List.getElem?_append_right (by rw [length_prot]; omega), getElem?_prot, length_prot]
    simp
theorem Pc.pc0 {g : Nat} {args : List V} {H : Heap} {v : V} (h : Pc E g args (prot [] H) v) : ∃ f : Heap → Heap, ∀ G, pcall (callL E) [] (.f g) args (H ++ G) = some (v, H ++ (G ++ f G)) := by
  obtain ⟨f, hf⟩ := h
  refine ⟨fun G => f (prot [] G), fun G => ?_⟩
  rw [← List.append_assoc]
  refine pcall_run ?_
  rw [prot_append0, hf, List.append_assoc]
theorem AL.prot {hide : List Nat} {H : Heap} {x : V} {l : List Arc} (h : AL H x l) (hk : ∀ k, x.blk? = some k → k ∉ hide) : AL (Ar.prot hide H) x l := Rw.prot h hk
end Go.Ar
/- Rows by a function; heaps written out. -/
set_option linter.unusedSimpArgs false
set_option linter.unusedVariables false
namespace Go.Ar
variable {E : Env}

/-- A row, by a function. -/
def tb (n : Nat) (g : Nat → V) : List V := (List.range n).map g
theorem tb_len (n : Nat) (g : Nat → V) : (tb n g).length = n := by simp [tb]
theorem tb_get {n i : Nat} {g : Nat → V} (h : i < n) : (tb n g)[i]? = some (g i) := by simp [tb, h]
theorem tb_congr {n : Nat} {g g' : Nat → V} (h : ∀ j, j < n → g j = g' j) : tb n g = tb n g' := by
  unfold tb
  exact List.map_congr_left fun j hj => h j (by simpa using hj)
theorem tb_set (n : Nat) (g : Nat → V) (i : Nat) (v : V) : (tb n g).set i v = tb n (fun j => if j = i then v else g j) := by
  refine List.ext_getElem? fun j => ?_
  by_cases hj : j < n
  · rw [tb_get hj, List.getElem?_set]
    by_cases e : i = j
    · subst e
      simp [tb_len, hj]
    · rw [if_neg e, tb_get hj, if_neg (fun h => e h.symm)]
  · rw [List.getElem?_eq_none (by simp [tb_len]; omega), List.getElem?_eq_none (by simp [tb_len]; omega)]
theorem tb_rep (n : Nat) (v : V) : (List.replicate n [v]).flatten = tb n (fun _ => v) := by
  rw [flatRep]
  refine List.ext_getElem? fun j => ?_
  by_cases hj : j < n
  · rw [tb_get hj]; simp [hj]
  · rw [List.getElem?_eq_none (by simp; omega), List.getElem?_eq_none (by simp [tb_len]; omega)]
theorem tb_int (n : Nat) (q : IntKind) (f : Nat → Int) : ((List.range n).map f).map (V.int q) = tb n fun j => .int q (f j) := by simp [tb]
theorem tb_bool (n : Nat) (f : Nat → Bool) : ((List.range n).map f).map V.bool = tb n fun j => .bool (f j) := by simp [tb]
theorem tb_all {n : Nat} {g : Nat → V} (h : ∀ j, j < n → (g j).scalar = true) : (tb n g).all V.scalar = true := by
  rw [List.all_eq_true]
  intro x hx
  obtain ⟨j, hj, rfl⟩ := List.mem_map.1 hx
  exact h j (by simpa using hj)
theorem int_of_tb (zs : List Int) (q : IntKind) : zs.map (V.int q) = tb zs.length fun j => .int q (zs.getD j 0) := by
  refine List.ext_getElem? fun j => ?_
  by_cases hj : j < zs.length
  · rw [tb_get hj]; simp [hj]
  · rw [List.getElem?_eq_none (by simp; omega), List.getElem?_eq_none (by simp [tb_len]; omega)]
theorem bool_of_tb (zs : List Bool) : zs.map V.bool = tb zs.length fun j => .bool (zs.getD j false) := by
  refine List.ext_getElem? fun j => ?_
  by_cases hj : j < zs.length
  · rw [tb_get hj]; simp [hj]
  · rw [List.getElem?_eq_none (by simp; omega), List.getElem?_eq_none (by simp [tb_len]; omega)]
/-- A row of whole numbers, of bools, by a function: what a slice holds. -/
structure TB (H : Heap) (x : V) (n : Nat) (g : Nat → V) : Prop where
  len : lenOf x = some n
  cells : cellsOf H 1 x = some (tb n g)
theorem TB.app {H : Heap} {x : V} {n : Nat} {g : Nat → V} (h : TB H x n g) (G : Heap) : TB (H ++ G) x n g := let r : Rw H 1 x n (tb n g) := ⟨h.1, h.2⟩; ⟨(r.app G).1, (r.app G).2⟩
theorem TB.at {H : Heap} {x : V} {n : Nat} {g : Nat → V} (h : TB H x n g) {i : Nat} (hi : i < n) : ∃ k o c, x = .sl k o n c ∧ ∀ G, rd (H ++ G) k (o + i) = some (g i) := by
  have r : Rw H 1 x n (tb n g) := ⟨h.1, h.2⟩
  obtain ⟨k, o, c, rfl, _⟩ := r.at1 hi
  refine ⟨k, o, c, rfl, fun G => ?_⟩
  obtain ⟨k', o', c', h1, h2⟩ := (r.app G).at1 hi
  cases h1
  rw [h2, tb_get hi]
theorem IL.tb {q : IntKind} {H : Heap} {x : V} {zs : List Int} (h : IL q H x zs) : TB H x zs.length fun j => .int q (zs.getD j 0) := ⟨h.len, by rw [← int_of_tb]; exact h.cells⟩
theorem BL.tb {H : Heap} {x : V} {zs : List Bool} (h : BL H x zs) : TB H x zs.length fun j => .bool (zs.getD j false) := ⟨h.len, by rw [← bool_of_tb]; exact h.cells⟩
theorem TB.il {q : IntKind} {H : Heap} {x : V} {n : Nat} {f : Nat → Int} (h : TB H x n fun j => .int q (f j)) : IL q H x ((List.range n).map f) := by
  refine ⟨by rw [h.1]; simp, ?_⟩
  rw [tb_int]; exact h.2
theorem TB.bl {H : Heap} {x : V} {n : Nat} {f : Nat → Bool} (h : TB H x n fun j => .bool (f j)) : BL H x ((List.range n).map f) := by
  refine ⟨by rw [h.1]; simp, ?_⟩
  rw [tb_bool]; exact h.2
/-- A row of one's own. -/
theorem TB.own {H G : Heap} {k n c : Nat} {g : Nat → V} {m : Mode} (h : H[k]? = some (.cells (tb n g) m)) : TB H (.sl k 0 n c) n g := by
  refine ⟨rfl, ?_⟩
  simp only [cellsOf, rdn, h]
  rw [if_pos (by simp [tb_len])]
  simp only [List.drop_zero, Nat.mul_one]
  rw [List.take_of_length_le (by simp [tb_len])]
theorem TB.congr {H : Heap} {x : V} {n : Nat} {g g' : Nat → V} (h : TB H x n g) (e : ∀ j, j < n → g j = g' j) : TB H x n g' := ⟨h.1, by rw [h.2, tb_congr e]⟩
theorem getElem?_app0 {H G : Heap} {b : Blk} : (H ++ (b :: G))[H.length]? = some b := by simp
theorem getElem?_appi {H G : Heap} {i : Nat} : (H ++ G)[H.length + i]? = G[i]? := by
  rw [List.getElem?_append_right (by omega)]; congr 1; omega
attribute [simp] tb_len tb_get tb_set tb_rep tb_int tb_bool
/-- A region that draws its order, and lays nothing new, at the end of a piece. -/
theorem wa_drl {ops : List (DM × Ins)} {is : List Ins} {s : St} {Q : Ex → St → Prop} (hp : (ops.all fun o => match o.1 with | .plain => true | _ => false) = true) (hi : ops.map (·.2) = is)
    (h : ∃ s', insL (callL E) is s = some s' ∧ Q .normal s') : WP E (.dreg 0 ops []) s Q := by
  obtain ⟨s', h1, h2⟩ := h
  refine wa_dreg (s' := s') ?_ rfl h2
  subst hi
  rw [dinsL_plain hp]
  simpa using h1
end Go.Ar
/- More on rows by a function, and heaps written out. -/
set_option linter.unusedSimpArgs false
set_option linter.unusedVariables false
namespace Go.Ar
variable {E : Env}

/-- A loop by a test, with nothing behind its body. -/
theorem wa_wh0 {pre : List Ins} {c : Nat} {i1 i2 : Nat} {body : MC} {Q : Ex → St → Prop} (I : Nat → St → Prop) (m : Nat) {s : St} (h0 : I m s)
    (step : ∀ m s, I m s → ∃ s1 t, insL (callL E) pre s = some s1 ∧ s1.τ c = .bool t ∧
      (t = true → WP E body s1 (InBlk i2 (After (InBlk i1 Q) fun s2 => ∃ m', m' < m ∧ I m' s2))) ∧ (t = false → Q .normal s1)) :
    WP E (.block i1 (.loop (.seq (.reg pre) (.seq (.cond (.t c) .skip (.exit i1)) (.block i2 body))))) s Q := by
  refine wa_block (wa_loop I ?_ m s h0)
  intro m s hI
  obtain ⟨s1, t, h1, h2, h3, h4⟩ := step m s hI
  refine wa_sr ⟨s1, h1, ?_⟩
  refine wa_if (t := t) h2 (fun ht => ?_) (fun ht => ?_)
  · show WP E (.block i2 body) s1 _
    obtain ⟨ex, s2, h5, h6⟩ := wa_block (h3 ht)
    exact ⟨ex, s2, h5, h6⟩
  · refine wa_ex ?_
    simp only [After, InBlk, if_true]
    exact h4 ht
theorem set_appn {H G : Heap} {i : Nat} {b : Blk} : (H ++ G).set (H.length + i) b = H ++ G.set i b := by simp [List.set_append_right]
theorem set_app0 {H G : Heap} {b : Blk} : (H ++ G).set H.length b = H ++ G.set 0 b := by simp [List.set_append_right]
attribute [simp] set_appn set_app0 getElem?_appi
/-- A call with nothing to be written. -/
theorem pcall_ok {call : CallF} {hide : List Nat} {t : Tgt} {args : List V} {H G : Heap} {v : V} (h : call t args (prot hide H) = some (v, prot hide H ++ G)) : pcall call hide t args H = some (v, H ++ G) := pcall_run h
theorem TB.at0 {H : Heap} {x : V} {n : Nat} {g : Nat → V} (h : TB H x n g) {i : Nat} (hi : i < n) : ∃ k o c, x = .sl k o n c ∧ rd H k (o + i) = some (g i) := by
  obtain ⟨k, o, c, h1, h2⟩ := h.at hi
  have := h2 []
  rw [List.append_nil] at this
  exact ⟨k, o, c, h1, this⟩
theorem TB.rw {H : Heap} {x : V} {n : Nat} {g : Nat → V} (h : TB H x n g) : Rw H 1 x n (tb n g) := ⟨h.1, h.2⟩
theorem TB.prot {hide : List Nat} {H : Heap} {x : V} {n : Nat} {g : Nat → V} (h : TB H x n g) (hk : ∀ k, x.blk? = some k → k ∉ hide) : TB (Ar.prot hide H) x n g := let r := h.rw.prot hk; ⟨r.1, r.2⟩
theorem rep_tb (n : Nat) (v : V) : List.replicate n v = tb n fun _ => v := by
  rw [← tb_rep, flatRep]
theorem tb_getE {n i : Nat} {g : Nat → V} (h : i < (tb n g).length) : (tb n g)[i] = g i := by
  have h' : i < n := by simpa using h
  have := tb_get (g := g) h'
  rw [List.getElem?_eq_getElem h] at this
  exact Option.some.inj this
attribute [simp] rep_tb tb_getE
theorem ite_int {c : Prop} [Decidable c] {k : IntKind} {a b : Int} : (if c then V.int k a else V.int k b) = V.int k (if c then a else b) := by split <;> rfl
theorem ite_bool {c : Prop} [Decidable c] {a b : Bool} : (if c then V.bool a else V.bool b) = V.bool (if c then a else b) := by split <;> rfl
end Go.Ar
/- A box within a heap, as it is written. -/
set_option linter.unusedSimpArgs false
set_option linter.unusedVariables false
namespace Go.Ar
variable {E : Env}

theorem lt_of_get {P : Heap} {k : Nat} {b : Blk} (h : P[k]? = some b) : k < P.length := (List.getElem?_eq_some_iff.1 h).1
theorem get_pre {P X : Heap} {k : Nat} {b : Blk} (h : P[k]? = some b) : (P ++ X)[k]? = some b := by rw [List.getElem?_append_left (lt_of_get h)]; exact h
theorem rd_pre {P X : Heap} {k o : Nat} {cs : List V} {m : Mode} (h : P[k]? = some (.cells cs m)) : rd (P ++ X) k o = cs[o]? := by
  simp only [rd]; rw [get_pre h]
theorem rdn_pre {P X : Heap} {k o n : Nat} {cs : List V} {m : Mode} (h : P[k]? = some (.cells cs m)) : rdn (P ++ X) k o n = if o + n ≤ cs.length then some ((cs.drop o).take n) else none := by
  simp only [rdn]; rw [get_pre h]
theorem rd_get {P : Heap} {k o : Nat} {cs : List V} {m : Mode} (h : P[k]? = some (.cells cs m)) : rd P k o = cs[o]? := by
  simp only [rd]; rw [h]
theorem rdn_all {P X : Heap} {k n : Nat} {cs : List V} {m : Mode} (h : P[k]? = some (.cells cs m)) (hn : cs.length = n) : rdn (P ++ X) k 0 n = some cs := by
  rw [rdn_pre h, if_pos (by omega)]; simp [← hn]
/-- A box within a heap, by what it holds. -/
theorem boxed {P : Heap} {k : Nat} {cs0 : List V} (h : P[k]? = some (.cells cs0 .ex)) :
    ∃ PP : List V → Heap, P = PP cs0 ∧ (∀ cs, (PP cs).length = P.length) ∧ (∀ cs, (PP cs)[k]? = some (.cells cs .ex)) ∧ (∀ cs j, j ≠ k → (PP cs)[j]? = P[j]?) ∧
      (∀ cs X o v, v.scalar = true → o < cs.length → wr (PP cs ++ X) k o [v] = some (PP (cs.set o v) ++ X)) := by
  have hk := lt_of_get h
  refine ⟨fun cs => P.set k (.cells cs .ex), ?_, fun cs => by simp, fun cs => List.getElem?_set_self hk, fun cs j hj => List.getElem?_set_ne (fun e => hj e.symm), fun cs X o v hv ho => ?_⟩
  · refine List.ext_getElem? fun j => ?_
    by_cases e : k = j
    · subst e; rw [List.getElem?_set_self hk]; exact h
    · rw [List.getElem?_set_ne e]
  · have h1 : (P.set k (.cells cs .ex) ++ X)[k]? = some (.cells cs .ex) := get_pre (List.getElem?_set_self hk)
    rw [wr1 h1 rfl ho hv, List.set_append_left _ _ (by simpa using hk)]
    simp
/-- What lies at k alone is written anew: it lies over what lay below. -/
theorem set_pre {H G : Heap} {k : Nat} {b : Blk} (h : H.length ≤ k) : ∃ G', (H ++ G).set k b = H ++ G' := ⟨G.set (k - H.length) b, by rw [List.set_append_right _ _ h]⟩
/-- Some registers, and what the heap begins with. -/
theorem wa_rh {m : MC} {τ : Nat → V} {H : Heap} {Q : Ex → St → Prop} (L : List (Nat × V)) (H0 : Heap) (h : Rg τ L) (hG : ∃ G, H = H0 ++ G) (k : ∀ τ' G, Rg τ' L → WP E m ⟨τ', H0 ++ G⟩ Q) : WP E m ⟨τ, H⟩ Q := by
  obtain ⟨G, rfl⟩ := hG
  exact k τ G h
theorem TB.frame {H H' : Heap} {x : V} {n : Nat} {g : Nat → V} (h : TB H x n g) (e : ∀ k, x.blk? = some k → H'[k]? = H[k]?) : TB H' x n g := let r := h.rw.frame e; ⟨r.1, r.2⟩
theorem TB.lt {H : Heap} {x : V} {n : Nat} {g : Nat → V} (h : TB H x n g) : ∀ k, x.blk? = some k → k < H.length := Rw.lt h.rw
end Go.Ar
