/- Operations of a region that draws its order: which may change places. -/
import Derived.Test.YtpojdgeginigjaaAr13
set_option linter.unusedSimpArgs false
set_option linter.unusedVariables false
namespace Go.Ar
open Go.RowKit

variable {call : CallF} {τ τ' : Nat → V} {H H' : Heap} {N : Nat}

theorem ev_congr {x : X} (h : ∀ t ∈ x.tmps, τ t = τ' t) : ev τ x = ev τ' x := by
  cases x with
  | t n => exact h n (by simp [X.tmps])
  | c v => rfl
theorem evL_congr {l : List X} (h : ∀ t ∈ l.flatMap X.tmps, τ t = τ' t) : l.map (ev τ) = l.map (ev τ') := by
  refine List.map_congr_left fun x hx => ev_congr fun t ht => h t (List.mem_flatMap.2 ⟨x, hx, ht⟩)
theorem evO_congr {x : Option X} (h : ∀ t ∈ oX x, τ t = τ' t) : x.map (ev τ) = x.map (ev τ') := by
  cases x with
  | none => rfl
  | some x => simp only [Option.map_some]; rw [ev_congr (fun t ht => h t ht)]

theorem aop_congr {i : I} (h : ∀ t ∈ i.tmps, τ t = τ' t) : aop call τ H i = aop call τ' H i := by
  cases i
  case build zs ps =>
    have : (ps.map fun p => (p.1, p.2.1, ev τ p.2.2)) = ps.map fun p => (p.1, p.2.1, ev τ' p.2.2) :=
      List.map_congr_left fun p hp => by rw [ev_congr fun t ht => h t (by simp only [I.tmps, List.mem_flatMap]; exact ⟨p, hp, ht⟩)]
    simp only [aop, this]
  case bslice len size zs ps =>
    have : (ps.map fun p => (p.1, size, ev τ p.2)) = ps.map fun p => (p.1, size, ev τ' p.2) :=
      List.map_congr_left fun p hp => by rw [ev_congr fun t ht => h t (by simp only [I.tmps, List.mem_flatMap]; exact ⟨p, hp, ht⟩)]
    simp only [aop, this]
  case mkfn f a b =>
    have h1 : a.map (ev τ) = a.map (ev τ') := evL_congr fun t ht => h t (by simp only [I.tmps, List.flatMap_append, List.mem_append]; exact .inl ht)
    have h2 : b.map (ev τ) = b.map (ev τ') := evL_congr fun t ht => h t (by simp only [I.tmps, List.flatMap_append, List.mem_append]; exact .inr ht)
    simp only [aop, h1, h2]
  case call f args =>
    have h1 : ev τ f = ev τ' f := ev_congr fun t ht => h t (by simp only [I.tmps, List.mem_append]; exact .inl ht)
    have h2 : args.map (ev τ) = args.map (ev τ') := evL_congr fun t ht => h t (by simp only [I.tmps, List.mem_append]; exact .inr ht)
    simp only [aop, h1, h2]
  case slc size x lo hi =>
    have h1 : ev τ x = ev τ' x := ev_congr fun t ht => h t (by simp only [I.tmps, List.mem_append]; exact .inl (.inl ht))
    have h2 : lo.map (ev τ) = lo.map (ev τ') := evO_congr fun t ht => h t (by simp only [I.tmps, List.mem_append]; exact .inl (.inr ht))
    have h3 : hi.map (ev τ) = hi.map (ev τ') := evO_congr fun t ht => h t (by simp only [I.tmps, List.mem_append]; exact .inr ht)
    simp only [aop, h1, h2, h3]
  case pick a b c | mapupd kk a b c | entst a b c =>
    have h1 : ev τ a = ev τ' a := ev_congr fun t ht => h t (by simp only [I.tmps, List.mem_append]; exact .inl (.inl ht))
    have h2 : ev τ b = ev τ' b := ev_congr fun t ht => h t (by simp only [I.tmps, List.mem_append]; exact .inl (.inr ht))
    have h3 : ev τ c = ev τ' c := ev_congr fun t ht => h t (by simp only [I.tmps, List.mem_append]; exact .inr ht)
    simp only [aop, h1, h2, h3]
  case store n x v | bin op x v | eq ne e x v | iadr size x v | idx l size g x v | append size bytes x v | copy size x v | mn x v | mx x v | lookup kk z ok x v | mapent kk z x v =>
    have h1 : ev τ x = ev τ' x := ev_congr fun t ht => h t (by simp only [I.tmps, List.mem_append]; exact .inl ht)
    have h2 : ev τ v = ev τ' v := ev_congr fun t ht => h t (by simp only [I.tmps, List.mem_append]; exact .inr ht)
    simp only [aop, h1, h2]
  case mv x | box n x | load n g x | nilc x | neg x | not x | conv k x | mkslice a b c x | fadr o x | fld o n g x | ext x j | len x | mlen x | clear s z x =>
    have h1 : ev τ x = ev τ' x := ev_congr fun t ht => h t (by simpa only [I.tmps] using ht)
    simp only [aop, h1]
  all_goals rfl

theorem newOf_congr {i : I} (h : ∀ t ∈ i.tmps, τ t = τ' t) : newOf τ i = newOf τ' i := by
  cases i
  case bslice len size zs ps =>
    have : (ps.map fun p => (p.1, size, ev τ p.2)) = ps.map fun p => (p.1, size, ev τ' p.2) :=
      List.map_congr_left fun p hp => by rw [ev_congr fun t ht => h t (by simp only [I.tmps, List.mem_flatMap]; exact ⟨p, hp, ht⟩)]
    simp only [newOf, this]
  case box n x | mkslice a b c x =>
    have h1 : ev τ x = ev τ' x := ev_congr fun t ht => h t (by simpa only [I.tmps] using ht)
    simp only [newOf, h1]
  all_goals rfl

/-! ### What an operation does, apart from its slot -/
def eff (call : CallF) (N : Nat) (d : DM × Ins) (τ : Nat → V) (H : Heap) : Option (V × Heap) :=
  match wanted τ d.2.g with
  | some true => match d.1 with
    | .plain => aop call τ H d.2.i
    | .pcall hide => aop (pcall call (hide.map (N + ·))) τ H d.2.i
    | .hole j => match newOf τ d.2.i with
      | some (b, mk) => match H[N + j]? with
        | some .dead => some (mk (N + j), H.set (N + j) b)
        | _ => none
      | none => none
  | some false => some (.undef, H)
  | none => none

theorem dins_eff (d : DM × Ins) (s : St) : dins call N d s = (eff call N d s.τ s.H).map fun p => ⟨put s.τ d.2.dst p.1, p.2⟩ := by
  obtain ⟨m, x⟩ := d
  unfold dins eff ins
  cases m <;> cases hw : wanted s.τ x.g with
  | none => simp
  | some b => cases b <;> simp <;> (try rfl) <;> (repeat' split) <;> simp_all

theorem wanted_congr {g : Option (Nat × Bool)} (h : ∀ t b, g = some (t, b) → τ t = τ' t) : wanted τ g = wanted τ' g := by
  cases g with
  | none => rfl
  | some p => obtain ⟨t, b⟩ := p; simp only [wanted, h t b rfl]
theorem eff_congr {d : DM × Ins} (h : ∀ t ∈ d.2.reads, τ t = τ' t) : eff call N d τ H = eff call N d τ' H := by
  have hw : wanted τ d.2.g = wanted τ' d.2.g := wanted_congr fun t b e => h t (by unfold Ins.reads; rw [e]; simp)
  have hi : ∀ t ∈ d.2.i.tmps, τ t = τ' t := fun t ht => h t (by unfold Ins.reads; exact List.mem_append_right _ ht)
  unfold eff
  rw [hw]
  simp only [aop_congr (call := call) hi, aop_congr (call := pcall call _) hi, newOf_congr hi]

/-! ### Kinds -/
theorem pure_any {i : I} (hc : i.cl = .pure) {r : V × Heap} (h : aop call τ H i = some r) : r.2 = H ∧ ∀ (call' : CallF) (H' : Heap), aop call' τ H' i = some (r.1, H') := by
  cases i <;> simp only [I.cl] at hc <;> (try (cases hc; done)) <;> simp only [aop] at h ⊢
  all_goals
    repeat' split at h
    all_goals first
      | (cases h; done)
      | (cases h; exact ⟨rfl, fun _ _ => by simp_all <;> omega⟩)
      | (simp only [Option.map_eq_some_iff] at h; obtain ⟨v, hv, h⟩ := h; cases h; exact ⟨rfl, fun _ _ => by simp_all⟩)

theorem rd_at {k o : Nat} {v : V} (h : rd H k o = some v) : (∃ b, H[k]? = some b ∧ b.live = true) ∧ ∀ H' : Heap, H'[k]? = H[k]? → rd H' k o = some v := by
  refine ⟨?_, fun H' e => by unfold rd at h ⊢; rw [e]; exact h⟩
  unfold rd at h
  split at h
  · rename_i hk; exact ⟨_, hk, rfl⟩
  · cases h
theorem rdn_at {k o n : Nat} {v : List V} (h : rdn H k o n = some v) : (∃ b, H[k]? = some b ∧ b.live = true) ∧ ∀ H' : Heap, H'[k]? = H[k]? → rdn H' k o n = some v := by
  refine ⟨?_, fun H' e => by unfold rdn at h ⊢; rw [e]; exact h⟩
  unfold rdn at h
  split at h
  · rename_i hk; exact ⟨_, hk, rfl⟩
  · cases h
theorem mpAt_at {k : Nat} {v : List (V × V)} (h : mpAt H k = some v) : (∃ b, H[k]? = some b ∧ b.live = true) ∧ ∀ H' : Heap, H'[k]? = H[k]? → mpAt H' k = some v := by
  refine ⟨?_, fun H' e => by unfold mpAt at h ⊢; rw [e]; exact h⟩
  unfold mpAt at h
  split at h
  · rename_i hk; exact ⟨_, hk, rfl⟩
  · cases h

/-- What a reading operation says: it turns nothing, and hangs on the one block. -/
def Reads (call : CallF) (τ : Nat → V) (H : Heap) (i : I) (x : X) (r : V × Heap) : Prop :=
  r.2 = H ∧ (∀ k, (ev τ x).blk? = some k → ∃ b, H[k]? = some b ∧ b.live = true) ∧ ∀ (call' : CallF) (H' : Heap), (∀ k, (ev τ x).blk? = some k → H'[k]? = H[k]?) → aop call' τ H' i = some (r.1, H')

theorem mapOf_at {v : V} {es : List (V × V)} (h : mapOf H v = some es) : (∀ k, v.blk? = some k → ∃ b, H[k]? = some b ∧ b.live = true) ∧ ∀ H' : Heap, (∀ k, v.blk? = some k → H'[k]? = H[k]?) → mapOf H' v = some es := by
  cases v <;> simp only [mapOf] at h <;> (try (cases h; done))
  · exact ⟨fun k hk => by simp [V.blk?] at hk, fun H' _ => by simpa [mapOf] using h⟩
  · rename_i k
    obtain ⟨h1, h2⟩ := mpAt_at h
    exact ⟨fun j hj => by simp [V.blk?] at hj; subst hj; exact h1, fun H' e => by simpa [mapOf] using h2 H' (e k rfl)⟩

theorem slcv_at {size : Nat} {x v : V} {lo hi : Option V} (h : slcv H size x lo hi = some v) : (∀ k, x.blk? = some k → ∃ b, H[k]? = some b ∧ b.live = true) ∧ ∀ H' : Heap, (∀ k, x.blk? = some k → H'[k]? = H[k]?) → slcv H' size x lo hi = some v := by
  refine ⟨fun k hk => ?_, fun H' e => ?_⟩
  · unfold slcv at h
    split at h
    · simp only [V.blk?, Option.some.injEq] at hk
      subst hk
      repeat' split at h
      all_goals first | (cases h; done) | (rename_i hb; exact ⟨_, hb, rfl⟩) | (rename_i hb _; exact ⟨_, hb, rfl⟩)
    · simp [V.blk?] at hk
    · simp [V.blk?] at hk
    · cases h
  · unfold slcv at h ⊢
    split at h
    · rename_i k o len cap
      have := e k rfl
      simp only [this]
      exact h
    · exact h
    · exact h
    · cases h

theorem load_reads {i : I} {x : X} (hc : i.cl = .load x) {r : V × Heap} (h : aop call τ H i = some r) : Reads call τ H i x r := by
  cases i <;> simp only [I.cl] at hc <;> (try (cases hc; done)) <;> cases hc <;> simp only [aop] at h <;> simp only [Reads, aop]
  case load n g =>
    split at h
    · rename_i k o hk
      simp only [hk, V.blk?, Option.some.injEq]
      split at h
      · rename_i hg
        simp only [Option.map_eq_some_iff] at h
        obtain ⟨cs, h1, h⟩ := h
        cases h
        obtain ⟨h2, h3⟩ := rdn_at h1
        exact ⟨rfl, fun j hj => by subst hj; exact h2, fun _ H' e => by simp [hg, h3 H' (e k rfl)]⟩
      · rename_i hg
        simp only [Option.map_eq_some_iff] at h
        obtain ⟨cs, h1, h⟩ := h
        cases h
        obtain ⟨h2, h3⟩ := rd_at h1
        exact ⟨rfl, fun j hj => by subst hj; exact h2, fun _ H' e => by simp [hg, h3 H' (e k rfl)]⟩
    · cases h
  case slc size lo hi =>
    simp only [Option.map_eq_some_iff] at h
    obtain ⟨v, h1, h⟩ := h
    cases h
    obtain ⟨h2, h3⟩ := slcv_at h1
    exact ⟨rfl, h2, fun _ H' e => by simp [h3 H' e]⟩
  case mlen =>
    simp only [Option.map_eq_some_iff] at h
    obtain ⟨v, h1, h⟩ := h
    cases h
    obtain ⟨h2, h3⟩ := mapOf_at h1
    exact ⟨rfl, h2, fun _ H' e => by simp [h3 H' e]⟩
  case lookup kk z ok k =>
    split at h
    · rename_i es h1
      obtain ⟨h2, h3⟩ := mapOf_at h1
      refine ⟨?_, h2, fun _ H' e => ?_⟩
      · split at h <;> first | (cases h; rfl) | cases h
      · rw [h3 H' e]
        split at h
        · rename_i hk; cases h; simp [hk]
        · rename_i hk; cases h; simp [hk]
        · cases h
    · cases h
end Go.Ar
