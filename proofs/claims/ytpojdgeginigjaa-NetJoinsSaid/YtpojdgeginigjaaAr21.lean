/- Arguments, opened: numbers, bools, slices of such or of structs of such. -/
import Derived.Test.YtpojdgeginigjaaAr20
import Derived.ProofKit
import Derived.ChangeArms
set_option linter.unusedSimpArgs false
set_option linter.unusedVariables false
namespace Go.Ar
open Go.RowKit Go.WideShapes Go.ChangeShapes

inductive KE where
  | int (k : IntKind)
  | bool
def KE.ok : KE → V → Prop
  | .int k, u => ∃ n, u = .int k n ∧ k.min ≤ n ∧ n ≤ k.max
  | .bool, u => ∃ b, u = .bool b
def KE.okV : KE → Value → Prop
  | .int k, u => ∃ n, u = .int k n ∧ k.min ≤ n ∧ n ≤ k.max
  | .bool, u => ∃ b, u = .bool b
theorem KE.absS {e : KE} {v : Value} (h : e.okV v) : e.ok (Ar.absS v) := by
  cases e with
  | int k => obtain ⟨n, rfl, h⟩ := h; exact ⟨n, rfl, h⟩
  | bool => obtain ⟨b, rfl⟩ := h; exact ⟨b, rfl⟩

def ke1 (P : Program) (t : TypeId) : Option KE :=
  match P.underlying t with
  | some (.int k) => some (.int k)
  | some .bool => some .bool
  | _ => none
def flatS (P : Program) : List Field → Nat → Option (List KE)
  | [], _ => some []
  | f :: fs, i => if f.offset = i ∧ P.cellsOf f.type = 1 then (match ke1 P f.type, flatS P fs (i + 1) with | some k, some ks => some (k :: ks) | _, _ => none) else none
def flatT (P : Program) (t : TypeId) : Option (List KE) :=
  match P.underlying t with
  | some (.struct fs) => if P.cellsOf t = fs.size then flatS P fs.toList 0 else none
  | _ => (ke1 P t).map fun k => [k]

variable {Hd : Type} {enc : TypeId × Value → Hd} {P : Program} {w : World} {base : Nat} {sp : Nat → Bool} {held : Bool}

theorem wf_bounds {k : IntKind} {n : Int} (h : (Lit.int k n).wf = true) : k.min ≤ n ∧ n ≤ k.max := by
  simpa [Lit.wf] using h

theorem ke1_open {t : TypeId} {k : KE} (hk : ke1 P t = some k) {fuel : Nat} {cs : List Value} {x : DataW Hd × List MemPlace} (h : DataW.trod enc P w base sp held fuel t cs = some x) : ∃ v, cs = [v] ∧ k.okV v := by
  unfold ke1 at hk
  cases fuel with
  | zero => simp [DataW.trod] at h
  | succ n =>
    unfold DataW.trod at h
    split at hk
    · rename_i q hu
      cases hk
      rw [hu] at h
      split at h <;> simp_all
      obtain ⟨⟨rfl, hw⟩, _⟩ := h
      exact ⟨_, rfl, wf_bounds hw⟩
    · rename_i hu
      cases hk
      rw [hu] at h
      split at h <;> simp_all
      exact ⟨_, rfl⟩
    · cases hk

theorem flatS_get : ∀ {fs : List Field} {i : Nat} {ks : List KE}, flatS P fs i = some ks → ks.length = fs.length ∧ ∀ (j : Nat) (f : Field), fs[j]? = some f → f.offset = i + j ∧ P.cellsOf f.type = 1 ∧ ∃ k, ks[j]? = some k ∧ ke1 P f.type = some k
  | [], i, ks, h => by cases h; exact ⟨rfl, fun j f h => by simp at h⟩
  | f :: fs, i, ks, h => by
    simp only [flatS] at h
    split at h
    case isFalse => cases h
    rename_i hc
    split at h
    case h_2 => cases h
    rename_i k ks' h1 h2
    cases h
    obtain ⟨h3, h4⟩ := flatS_get h2
    refine ⟨by simp [h3], fun j g hg => ?_⟩
    cases j with
    | zero => simp at hg; subst hg; exact ⟨by simpa using hc.1, hc.2, k, rfl, h1⟩
    | succ j =>
      simp at hg
      obtain ⟨a, b, c, d, e⟩ := h4 j g hg
      exact ⟨by omega, b, c, by simpa using d, e⟩

theorem flat_open {t : TypeId} {ks : List KE} (hk : flatT P t = some ks) {fuel : Nat} {cs : List Value} {x : DataW Hd × List MemPlace} (h : DataW.trod enc P w base sp held fuel t cs = some x) :
    cs.length = ks.length ∧ ∀ (i : Nat) (v : Value), cs[i]? = some v → ∃ k, ks[i]? = some k ∧ k.okV v := by
  unfold flatT at hk
  split at hk
  · rename_i fs hu
    split at hk
    case isFalse => cases hk
    rename_i hc
    obtain ⟨xs, n, _, _, hl, hx, hf⟩ := DataW.trod_struct hu h
    obtain ⟨h1, h2⟩ := flatS_get hk
    have hlen : cs.length = ks.length := by rw [hl, hc, h1]; simp
    refine ⟨hlen, fun i v hv => ?_⟩
    have hi : i < cs.length := (List.getElem?_eq_some_iff.1 hv).1
    have hif : i < fs.toList.length := by rw [← h1]; omega
    obtain ⟨h3, h4, k, h5, h6⟩ := h2 i _ (List.getElem?_eq_getElem hif)
    have hgi : fs[i]? = some fs.toList[i] := by rw [← Array.getElem?_toList]; exact List.getElem?_eq_getElem hif
    have h7 := hf i _ hgi
    have hxi : i < xs.length := by rw [hx]; simpa using hif
    rw [List.getElem?_eq_getElem hxi] at h7
    obtain ⟨u, hu1, hu2⟩ := ke1_open h6 h7
    refine ⟨k, h5, ?_⟩
    have : ((cs.drop fs.toList[i].offset).take (P.cellsOf fs.toList[i].type))[0]? = some v := by
      rw [h3, h4, List.getElem?_take, if_pos (by omega), List.getElem?_drop]
      simpa using hv
    rw [hu1] at this
    simp at this
    subst this
    exact hu2
  · simp only [Option.map_eq_some_iff] at hk
    obtain ⟨k, hk, rfl⟩ := hk
    obtain ⟨v, rfl, hv⟩ := ke1_open hk h
    refine ⟨rfl, fun i u hu => ?_⟩
    cases i with
    | zero => simp at hu; subst hu; exact ⟨k, rfl, hv⟩
    | succ i => simp at hu

/-! ### A slice, handed in -/
/-- What is known of a slice that was handed in. -/
def SlOk (ks : List KE) (H : Heap) (u : V) : Prop :=
  u = .nils ∨ ∃ k len cs, u = .sl k 0 len len ∧ H[k]? = some (.cells cs .ro) ∧ cs.length = len * ks.length ∧ len ≤ maxLen ∧ ∀ (i : Nat) (x : V), cs[i]? = some x → ∃ e, ks[i % ks.length]? = some e ∧ e.ok x

theorem okSl_spot {t e : TypeId} (ht : P.underlying t = some (.slice e)) {r : Reach} {a : Addr} {len cap : Nat} (h : Cell.okWide P w r base t (.slice (some a) len cap)) : a.spot = none ∧ ∃ c T fr, w.heap[a.block]? = some (.cells c T fr) := by
  simp only [Cell.okWide, ht, Cell.ok] at h
  obtain ⟨_, _, _, h1, row, cells, h2, _⟩ := h
  refine ⟨h1, ?_⟩
  unfold World.shape? at h2
  split at h2
  · rename_i c T fr hb; exact ⟨_, _, _, hb⟩
  · cases h2

theorem cell?_at {a : Addr} {c : Array Value} {T : TypeId} {fr : Nat × Nat} (hb : w.heap[a.block]? = some (.cells c T fr)) (hs : a.spot = none) (n : Nat) : w.cell? (a.add n) = c[a.off + n]? := by
  by_cases h0 : n = 0
  · subst h0; simp [World.cell?, Addr.add, hb, hs]
  · simp [World.cell?, Addr.add, hb, h0]

theorem open_slice {ρ : Rho} {H : Heap} (hS : Sim P w.heap.size w ρ H [] w) {t e : TypeId} (ht : P.underlying t = some (.slice e)) {ks : List KE} (hk : flatT P e = some ks) (hc : P.cellsOf e = ks.length) {r : Reach} {b0 : Nat} {v : Value}
    (hok : Cell.okWide P w r b0 t v) {fuel : Nat} {x : DataW Hd × List MemPlace} (h : DataW.trod enc P w base sp held fuel t [v] = some x) :
    ∃ (ρ' : Rho) (H' : Heap) (u : V), Sim P w.heap.size w ρ' (H ++ H') [] w ∧ RLe ρ ρ' ∧ R ρ' u v ∧ SlOk ks (H ++ H') u ∧ ((u = .nils ∧ H' = []) ∨ ∃ len cs, u = .sl H.length 0 len len ∧ H' = [.cells cs .ro]) := by
  rcases DataW.trod_slice ht h with ⟨h0, _⟩ | ⟨a, len, cap, elems, rest, n, _, hcs, _, _, hl, hm, hlen, hel, _⟩
  · simp at h0; subst h0
    exact ⟨ρ, [], .nils, by simpa using hS, fun _ _ h => h, R.nils, .inl rfl, .inl ⟨rfl, rfl⟩⟩
  · simp at hcs; subst hcs
    obtain ⟨hsp, c, T, fr, hb⟩ := okSl_spot ht hok
    have hcell : ∀ i j, i < len → j < ks.length → ∃ v', c[a.off + (i * ks.length + j)]? = some v' ∧ ∃ k, ks[j]? = some k ∧ k.okV v' := fun i j hi hj => by
      have hE := hel i hi
      rw [List.getElem?_eq_getElem (by omega : i < elems.length)] at hE
      simp only [Option.bind_eq_some_iff] at hE
      obtain ⟨cs, h1, h2⟩ := hE
      obtain ⟨h3, h4⟩ := flat_open hk h2
      obtain ⟨_, _, h5⟩ := World.cells?_some h1
      have hj' : j < cs.length := by omega
      have h6 := h5 j (by omega)
      rw [List.getElem?_eq_getElem hj'] at h6
      have haa : (a.add (i * P.cellsOf e)).add j = a.add (i * ks.length + j) := by
        rw [hc]
        unfold Addr.add
        split <;> split <;> simp_all <;> omega
      rw [haa, cell?_at hb hsp] at h6
      exact ⟨_, h6, h4 j _ (List.getElem?_eq_getElem hj')⟩
    let cs : List V := (List.range (len * ks.length)).map fun i => absS (c[a.off + i]?.getD undef)
    have hone : ∀ i, i < len * ks.length → ∃ v', c[a.off + i]? = some v' ∧ ∃ k, ks[i % ks.length]? = some k ∧ k.okV v' := fun i hi => by
      have hpos : 0 < ks.length := by
        rcases Nat.eq_zero_or_pos ks.length with h | h
        · rw [h] at hi; simp at hi
        · exact h
      obtain ⟨v', h1, h2⟩ := hcell (i / ks.length) (i % ks.length) (Nat.div_lt_of_lt_mul (by rw [Nat.mul_comm]; exact hi)) (Nat.mod_lt _ hpos)
      rw [Nat.mul_comm, Nat.div_add_mod] at h1
      exact ⟨v', h1, h2⟩
    let L : Loc := ⟨a.block, a.off, .loose⟩
    have hblk : BlkOk P w.heap.size (ext ρ H.length L) L w (.cells cs .ro) := by
      refine ⟨c, T, fr, hb, fun i u hu => ?_, fun es sz => by simp [L]⟩
      have hi : i < len * ks.length := by
        have := (List.getElem?_eq_some_iff.1 hu).1
        simpa [cs] using this
      obtain ⟨v', h1, _⟩ := hone i hi
      refine ⟨v', h1, ?_⟩
      simp only [cs, List.getElem?_map, List.getElem?_range hi, Option.map_some, h1, Option.getD_some, Option.some.injEq] at hu
      subst hu
      exact absS_ok _ _
    have hS' : Sim P w.heap.size w (ext ρ H.length L) (H ++ [.cells cs .ro]) [] w := by
      have hle : RLe ρ (ext ρ H.length L) := le_ext (hS.out _ (Nat.le_refl _)) L
      have hget : ∀ (k : Nat) (b : Blk), (H ++ [Blk.cells cs .ro])[k]? = some b → (k < H.length ∧ H[k]? = some b) ∨ (k = H.length ∧ b = .cells cs .ro) := fun k b hb => by
        by_cases hk : k < H.length
        · rw [List.getElem?_append_left hk] at hb; exact .inl ⟨hk, hb⟩
        · rw [List.getElem?_append_right (by omega)] at hb
          cases hd : k - H.length with
          | zero => rw [hd] at hb; simp at hb; exact .inr ⟨by omega, hb.symm⟩
          | succ i => rw [hd] at hb; simp at hb
      have hold : ∀ k, k < H.length → ext ρ H.length L k = ρ k := fun k hk => by unfold ext; rw [if_neg (by omega)]
      refine ⟨fun k hk => ?_, hS.base, hS.low, fun k b hb hl => ?_, fun k k' b b' M M' hkk hb hbo hb' hbl hM hM' => ?_, fun r hr => by cases hr⟩
      · simp at hk; unfold ext; rw [if_neg (by omega)]; exact hS.out k (by omega)
      · rcases hget k b hb with ⟨hk, h⟩ | ⟨rfl, rfl⟩
        · obtain ⟨M, h1, h2⟩ := hS.blk k b h hl
          exact ⟨M, hle _ _ h1, h2.mono hle⟩
        · exact ⟨L, by simp [ext], hblk⟩
      · rcases hget k b hb with ⟨hk, h⟩ | ⟨rfl, rfl⟩
        · rcases hget k' b' hb' with ⟨hk', h'⟩ | ⟨rfl, rfl⟩
          · rw [hold k hk] at hM; rw [hold k' hk'] at hM'
            exact hS.sep k k' b b' M M' hkk h hbo h' hbl hM hM'
          · have e1 : M' = L := by simp [ext] at hM'; exact hM'.symm
            rw [hold k hk] at hM
            obtain ⟨M1, h1, h2⟩ := hS.blk k b h (Blk.own_live hbo)
            rw [hM] at h1; cases h1
            have h3 := h2.low hbo
            have h4 : a.block < w.heap.size := (Array.getElem?_eq_some_iff.1 ‹w.heap[a.block]? = some (.cells c T fr)›).1
            subst e1
            simp only [L]; omega
        · simp [Blk.own, Mode.wr] at hbo
    refine ⟨ext ρ H.length L, [.cells cs .ro], .sl H.length 0 len len, hS', le_ext (hS.out _ (Nat.le_refl _)) L, ?_, .inr ⟨H.length, len, cs, rfl, by simp, by simp [cs], by omega, fun i u hu => ?_⟩, .inr ⟨len, cs, rfl, rfl⟩⟩
    · have haddr : (⟨L.blk, L.base + 0, none⟩ : Addr) = a := by
        obtain ⟨b, o, s⟩ := a
        simp only at hsp
        subst hsp
        rfl
      have := @R.sl (ext ρ H.length L) H.length 0 len len cap L (by simp [ext]) hl
      rwa [haddr] at this
    · have hi : i < len * ks.length := by
        have := (List.getElem?_eq_some_iff.1 hu).1
        simpa [cs] using this
      obtain ⟨v', h1, k, h2, h3⟩ := hone i hi
      simp only [cs, List.getElem?_map, List.getElem?_range hi, Option.map_some, h1, Option.getD_some, Option.some.injEq] at hu
      subst hu
      exact ⟨k, h2, KE.absS h3⟩
end Go.Ar
