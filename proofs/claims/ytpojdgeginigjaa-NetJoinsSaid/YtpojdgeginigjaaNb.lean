/- Nets: what may be. -/
import Derived.Test.YtpojdgeginigjaaNa
import Derived.Test.YtpojdgeginigjaaAw
set_option linter.unusedSimpArgs false
set_option linter.unusedVariables false
namespace Go.Proofs.Ytpojdgeginigjaa
open Go Go.Ar
set_option maxRecDepth 100000

theorem call_E {g n : Nat} {rs : List RV} {gc : MC} (hg : awk.contains g = false) (hC : nc Try.prog g = some (n, rs, gc)) {args : List V} (hl : args.length = n) {H : Heap} {Q : V → Heap → Prop}
    (h : WP E gc ⟨args0 args, H⟩ fun e s' => (∀ i, e ≠ .exit i) ∧ ∃ vs, resL s'.τ s'.H rs = some vs ∧ Q (pack vs) s'.H) : ∃ v H', callL E (.f g) args H = some (v, H') ∧ Q v H' := call_N hg hC hl h
theorem call_yes {k : Nat} (hk : awk.contains k = true) {H : Heap} : callL E (.f k) [] H = some (.bool true, H) := call_yesL hk

structure Net where
  N : Int
  S : Int
  T : Int
  arcs : List Ar.Arc
def NV (n : Net) (a : V) : V := .agg [.int .i64 n.N, .int .i64 n.S, .int .i64 n.T, a]
def nbox (n : Net) (a : V) : Blk := .cells [.int .i64 n.N, .int .i64 n.S, .int .i64 n.T, a] .ex

theorem pc_vertex (n : Net) (a : V) (v : Int) (H : Heap) : Pc E 108 [NV n a, .int .i64 v] H (.bool (decide (0 ≤ v) && decide (v < n.N))) := Pc.mk fun G => by
  refine call_E rfl nc108 rfl ?_
  unfold gc108 NV
  by_cases h : 0 ≤ v
  · refine wa_sr ⟨_, by simp; rfl, ?_⟩
    refine wa_sr ⟨_, by simp -implicitDefEqProofs [h]; rfl, ?_⟩
    exact wa_ret ⟨by simp, _, by simp; rfl, by simp [h], _, by simp; rfl⟩
  · refine wa_sr ⟨_, by simp; rfl, ?_⟩
    refine wa_sr ⟨_, by simp -implicitDefEqProofs [h]; rfl, ?_⟩
    exact wa_ret ⟨by simp, _, by simp; rfl, by simp [h], _, by simp; rfl⟩

def okN (n : Net) : Bool := decide (2 ≤ n.N) && decide (n.N ≤ 4096)
theorem pc_r1 (n : Net) (a : V) (H : Heap) : Pc E 105 [NV n a] H (.bool (okN n)) := Pc.mk fun G => by
  refine call_E rfl nc105 rfl ?_
  unfold gc105 NV okN
  by_cases h : 2 ≤ n.N
  · refine wa_sr ⟨_, by simp; rfl, ?_⟩
    refine wa_sr ⟨_, by simp -implicitDefEqProofs [h]; rfl, ?_⟩
    exact wa_ret ⟨by simp, _, by simp; rfl, by simp [h], _, by simp; rfl⟩
  · refine wa_sr ⟨_, by simp; rfl, ?_⟩
    refine wa_sr ⟨_, by simp -implicitDefEqProofs [h]; rfl, ?_⟩
    exact wa_ret ⟨by simp, _, by simp; rfl, by simp [h], _, by simp; rfl⟩

def okM (n : Net) : Bool := decide (n.arcs.length ≤ 16384)
theorem pc_r2 {n : Net} {a : V} {H : Heap} (h : AL H a n.arcs) : Pc E 106 [NV n a] H (.bool (okM n)) := Pc.mk fun G => by
  refine call_E rfl nc106 rfl ?_
  unfold gc106 NV okM
  have hl : lenOf a = some n.arcs.length := Rw.len h
  refine wa_sr ⟨_, by simp [len_cells hl]; rfl, ?_⟩
  refine wa_sr ⟨_, by simp -implicitDefEqProofs [hl]; rfl, ?_⟩
  exact wa_ret ⟨by simp, _, by simp; rfl, by simp; omega, _, by simp; rfl⟩

def vtx (n : Net) (v : Int) : Bool := decide (0 ≤ v) && decide (v < n.N)
def okE (n : Net) : Bool := vtx n n.S && vtx n n.T && decide (n.S ≠ n.T)
theorem pc_r3 (n : Net) (a : V) (H : Heap) : Pc E 107 [NV n a] H (.bool (okE n)) := Pc.mk fun G => by
  refine call_E rfl nc107 rfl ?_
  unfold gc107 okE
  obtain ⟨f, hf⟩ := pc_vertex n a n.S H
  obtain ⟨f2, hf2⟩ := pc_vertex n a n.T H
  change ∀ G, _ = some (V.bool (vtx n n.S), _) at hf
  change ∀ G, _ = some (V.bool (vtx n n.T), _) at hf2
  unfold NV at hf hf2 ⊢
  refine wa_sr ⟨_, by simp; rfl, ?_⟩
  cases h1 : vtx n n.S
  · rw [h1] at hf
    refine wa_sr ⟨_, by simp -implicitDefEqProofs [hf]; rfl, ?_⟩
    exact wa_ret ⟨by simp, _, by simp; rfl, by simp, _, by simp; rfl⟩
  · rw [h1] at hf
    cases h2 : vtx n n.T
    · rw [h2] at hf2
      refine wa_sr ⟨_, by simp -implicitDefEqProofs [hf, hf2]; rfl, ?_⟩
      exact wa_ret ⟨by simp, _, by simp; rfl, by simp, _, by simp; rfl⟩
    · rw [h2] at hf2
      refine wa_sr ⟨_, by simp -implicitDefEqProofs [hf, hf2]; rfl, ?_⟩
      exact wa_ret ⟨by simp, _, by simp; rfl, by simp [bne]; rfl, _, by simp; rfl⟩

theorem pc_a4 (n : Net) (a : V) (x : Ar.Arc) (H : Heap) : Pc E 110 [NV n a, .agg x.cells] H (.bool (vtx n x.src && vtx n x.dst)) := Pc.mk fun G => by
  refine call_E rfl nc110 rfl ?_
  unfold gc110
  obtain ⟨f, hf⟩ := pc_vertex n a x.src H
  obtain ⟨f2, hf2⟩ := pc_vertex n a x.dst H
  change ∀ G, _ = some (V.bool (vtx n x.src), _) at hf
  change ∀ G, _ = some (V.bool (vtx n x.dst), _) at hf2
  unfold NV at hf hf2 ⊢
  unfold Arc.cells
  refine wa_sr ⟨_, by simp; rfl, ?_⟩
  cases h1 : vtx n x.src
  · rw [h1] at hf
    refine wa_sr ⟨_, by simp -implicitDefEqProofs [hf]; rfl, ?_⟩
    exact wa_ret ⟨by simp, _, by simp; rfl, by simp, _, by simp; rfl⟩
  · rw [h1] at hf
    refine wa_sr ⟨_, by simp -implicitDefEqProofs [hf, hf2]; rfl, ?_⟩
    exact wa_ret ⟨by simp, _, by simp; rfl, by simp, _, by simp; rfl⟩
theorem pc_a5 (n : Net) (a : V) (x : Ar.Arc) (H : Heap) : Pc E 111 [NV n a, .agg x.cells] H (.bool (decide (0 ≤ x.cap))) := Pc.mk fun G => by
  refine call_E rfl nc111 rfl ?_
  unfold gc111 NV Arc.cells
  refine wa_sr ⟨_, by simp; rfl, ?_⟩
  refine wa_sr ⟨_, by simp; rfl, ?_⟩
  exact wa_ret ⟨by simp, _, by simp; rfl, by simp, _, by simp; rfl⟩

/-- Not so, of one arc. -/
theorem pc_not {n : Net} {a : V} {x : Ar.Arc} {H : Heap} {k1 k2 s : Nat} {b : Bool} (h1 : ∀ G, rd (H ++ G) k1 0 = some (.fn s [] [])) (h2 : ∀ G, rdn (H ++ G) k2 0 4 = some [.int .i64 n.N, .int .i64 n.S, .int .i64 n.T, a]) (h3 : Pc E s [NV n a, .agg x.cells] H (.bool b)) :
    Pc E 132 [.agg x.cells, .ptr k1 0, .ptr k2 0] H (.bool (!b)) := Pc.mk fun G => by
  refine call_E rfl nc132 rfl ?_
  unfold gc132
  obtain ⟨f, hf⟩ := h3
  unfold NV at hf
  unfold Arc.cells at hf ⊢
  refine wa_sr ⟨_, by simp; rfl, ?_⟩
  refine wa_sr ⟨_, by simp -implicitDefEqProofs [h1, h2, hf]; rfl, ?_⟩
  exact wa_ret ⟨by simp, _, by simp; rfl, by simp, _, by simp; rfl⟩

/-- Where the first arc stands that is so. -/
theorem pc_index {a : V} {l : List Ar.Arc} {H : Heap} {g : Nat} {cs : List V} {p : Ar.Arc → Bool} (h : AL H a l) (hs : l.length ≤ 2 ^ 40) (hp : ∀ x, x ∈ l → Pc E g (V.agg x.cells :: cs) H (.bool (p x))) :
    Pc E 138 [a, .fn g [] cs] H (.int .i64 (match l.findIdx? p with | some i => (i : Int) | none => -1)) := Pc.mk fun G => by
  refine call_E rfl nc138 rfl ?_
  unfold gc138
  have hl : lenOf a = some l.length := Rw.len h
  refine wa_sr ⟨_, by simp; rfl, ?_⟩
  refine wa_sr ⟨_, by simp [hl]; rfl, ?_⟩
  refine wa_cut (fun s => (∃ G', s.H = H ++ G ++ G') ∧ ∀ (j : Nat) (hj : j < l.length), p l[j] = false) ?_ ?_
  · refine wa_for (n := l.length) (fun i (_ : Unit) => [(0, a), (1, .fn g [] cs)]) (fun i _ H' => (∃ G', H' = H ++ G ++ G') ∧ ∀ (j : Nat) (hj : j < l.length), j < i → p l[j] = false) ()
      (by decide) (fun i hi => w64 (by omega) (by omega)) (by simp) (by simp) (by simp [Rg]) ⟨⟨[], by simp⟩, fun j _ h => by omega⟩ (by simp) ?_ ?_
    · rintro i _ τ H2 hi t8 t7 ⟨t0, t1, -⟩ ⟨⟨G', rfl⟩, hall⟩
      dsimp only [ev] at *
      obtain ⟨k, o, c, rfl, hk, hr, _⟩ := h.at hi
      obtain ⟨f, hf⟩ := hp l[i] (List.getElem_mem hi)
      refine wa_sr ⟨_, by simp [t8]; rfl, ?_⟩
      have hr' := hr (G ++ G')
      have hf' := hf (G ++ G')
      simp only [List.append_assoc] at hr' hf' ⊢
      refine wa_sr ⟨_, by simp -implicitDefEqProofs [t0, t1, hi, hr', hf']; rfl, ?_⟩
      cases hpi : p l[i]
      · refine wa_cond (t := false) (by simp [hpi]) (fun h => by cases h) (fun _ => wa_skip ?_)
        refine ⟨by simp [t8], by simp [t7], (), by simp [Rg, t0, t1], ⟨_, by simp; rfl⟩, fun j hj hji => ?_⟩
        by_cases e : j = i
        · subst e; exact hpi
        · exact hall j hj (by omega)
      · refine wa_cond (t := true) (by simp [hpi]) (fun _ => ?_) (fun h => by cases h)
        refine wa_sr ⟨_, by simp; rfl, ?_⟩
        refine wa_ret ⟨by simp, _, by simp; rfl, ?_, _, by simp; rfl⟩
        have : l.findIdx? p = some i := by
          rw [List.findIdx?_eq_some_iff_getElem]
          exact ⟨hi, hpi, fun j hj => by simpa using hall j (by omega) hj⟩
        rw [this]; rfl
    · rintro _ τ H2 - ⟨hG, hall⟩
      exact ⟨hG, fun j hj => hall j hj hj⟩
  · rintro ⟨τ, H2⟩ ⟨⟨G', hG⟩, hall⟩
    dsimp only at hG
    refine wa_sr ⟨_, by simp; rfl, ?_⟩
    refine wa_ret ⟨by simp, _, by simp; rfl, ?_, G', hG⟩
    have : l.findIdx? p = none := by
      rw [List.findIdx?_eq_none_iff]
      intro x hx
      obtain ⟨j, hj, rfl⟩ := List.mem_iff_getElem.1 hx
      exact hall j hj
    rw [this]; rfl
theorem pc_contains {a : V} {l : List Ar.Arc} {H : Heap} {g : Nat} {cs : List V} {p : Ar.Arc → Bool} (h : AL H a l) (hs : l.length ≤ 2 ^ 40) (hp : ∀ x, x ∈ l → Pc E g (V.agg x.cells :: cs) H (.bool (p x))) :
    Pc E 131 [a, .fn g [] cs] H (.bool (l.any p)) := Pc.mk fun G => by
  refine call_E rfl nc131 rfl ?_
  unfold gc131
  obtain ⟨f, hf⟩ := pc_index h hs hp
  refine wa_sr ⟨_, by simp; rfl, ?_⟩
  refine wa_sr ⟨_, by simp -implicitDefEqProofs [hf]; rfl, ?_⟩
  refine wa_ret ⟨by simp, _, by simp; rfl, ?_, _, by simp; rfl⟩
  cases hi : l.findIdx? p with
  | none =>
    have h1 := List.findIdx?_eq_none_iff.1 hi
    have : l.any p = false := by rw [List.any_eq_false]; exact fun x hx => by simp [h1 x hx]
    simp [this]
  | some i =>
    rw [List.findIdx?_eq_some_iff_getElem] at hi
    obtain ⟨h1, h2, _⟩ := hi
    have : l.any p = true := by rw [List.any_eq_true]; exact ⟨_, List.getElem_mem h1, h2⟩
    simp [this]
/-- So of all arcs. -/
theorem pc_of {n : Net} {a : V} {H : Heap} {k1 s : Nat} {p : Ar.Arc → Bool} (h : AL H a n.arcs) (hs : n.arcs.length ≤ 2 ^ 40) (h1 : ∀ G, rd (H ++ G) k1 0 = some (.fn s [] [])) (hp : ∀ x, x ∈ n.arcs → ∀ H, Pc E s [NV n a, .agg x.cells] H (.bool (p x))) :
    Pc E 130 [NV n a, .ptr k1 0] H (.bool (n.arcs.all p)) := Pc.mk fun G => by
  refine call_E rfl nc130 rfl ?_
  unfold gc130
  have hl : lenOf a = some n.arcs.length := Rw.len h
  have key : Pc E 131 [a, .fn 132 [] [.ptr k1 0, .ptr (H ++ G).length 0]] (H ++ G ++ [nbox n a]) (.bool (n.arcs.any fun x => !p x)) := by
    refine pc_contains ((h.app G).app _) hs fun x hx => ?_
    refine pc_not (n := n) (a := a) (s := s) (fun G' => ?_) (fun G' => ?_) (hp x hx _)
    · rw [List.append_assoc, List.append_assoc]; exact h1 _
    · rw [List.append_assoc (H ++ G)]; rw [rdn_app0]; rfl
  obtain ⟨f, hf⟩ := key.run
  unfold NV
  have hf' : callL E (.f 131) [a, .fn 132 [] [.ptr k1 0, .ptr (H.length + G.length) 0]] (H ++ (G ++ [.cells [.int .i64 n.N, .int .i64 n.S, .int .i64 n.T, a] .ex])) = some (.bool (n.arcs.any fun x => !p x), H ++ (G ++ ([.cells [.int .i64 n.N, .int .i64 n.S, .int .i64 n.T, a] .ex] ++ f))) := by
    have := hf
    simp only [List.length_append, List.append_assoc] at this
    exact this
  refine wa_sr ⟨_, by simp [len_cells hl]; rfl, ?_⟩
  refine wa_sr ⟨_, by simp -implicitDefEqProofs [hf']; rfl, ?_⟩
  refine wa_ret ⟨by simp, _, by simp; rfl, ?_, _, by simp; rfl⟩
  simp [List.all_eq_not_any_not]
end Go.Proofs.Ytpojdgeginigjaa
