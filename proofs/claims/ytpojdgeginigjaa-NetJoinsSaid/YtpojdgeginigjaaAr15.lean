/- Two operations that stand side by side change places. -/
import Derived.Test.YtpojdgeginigjaaAr14
set_option linter.unusedSimpArgs false
set_option linter.unusedVariables false
namespace Go.Ar
open Go.RowKit

variable {call : CallF} {τ τ' : Nat → V} {H H' : Heap} {N nh : Nat}

def act (call : CallF) (N : Nat) (d : DM × Ins) (τ : Nat → V) (H : Heap) : Option (V × Heap) :=
  match d.1 with
  | .plain => aop call τ H d.2.i
  | .pcall hide => aop (pcall call (hide.map (N + ·))) τ H d.2.i
  | .hole j => match newOf τ d.2.i with
    | some (b, mk) => match H[N + j]? with
      | some .dead => some (mk (N + j), H.set (N + j) b)
      | _ => none
    | none => none
theorem eff_act (d : DM × Ins) : eff call N d τ H = match wanted τ d.2.g with | some true => act call N d τ H | some false => some (.undef, H) | none => none := rfl

/-! ### What each kind does -/
def FPure (f : Heap → Option (V × Heap)) : Prop := ∀ H r, f H = some r → r.2 = H ∧ ∀ H', f H' = some (r.1, H')
def FLoad (f : Heap → Option (V × Heap)) (x : Option Nat) : Prop :=
  ∀ H r, f H = some r → r.2 = H ∧ (∀ k, x = some k → ∃ b, H[k]? = some b ∧ b.live = true) ∧ ∀ H', (∀ k, x = some k → H'[k]? = H[k]?) → f H' = some (r.1, H')
def FHole (f : Heap → Option (V × Heap)) (n : Nat) : Prop :=
  ∀ H r, f H = some r → H[n]? = some .dead ∧ ∃ b, r.2 = H.set n b ∧ ∀ H' : Heap, H'[n]? = some .dead → f H' = some (r.1, H'.set n b)
def FStore (f : Heap → Option (V × Heap)) (x : Option Nat) : Prop :=
  ∀ H r, f H = some r → ∃ k b, x = some k ∧ k < H.length ∧ r.2 = H.set k b ∧ ∀ H' : Heap, H'[k]? = H[k]? → f H' = some (r.1, H'.set k b)
def setmo (H : Heap) : Option (Nat × Blk) → Heap
  | none => H
  | some (k, b) => H.set k b
def FApp (f : Heap → Option (V × Heap)) (x y : Option Nat) : Prop :=
  ∀ H r, f H = some r → ∃ mo tl, r.2 = setmo H mo ++ tl ∧ (∀ k b, mo = some (k, b) → x = some k ∧ k < H.length) ∧
    ∀ H' : Heap, H'.length = H.length → (∀ k, x = some k → H'[k]? = H[k]?) → (∀ k, y = some k → H'[k]? = H[k]?) → f H' = some (r.1, setmo H' mo ++ tl)
def FPc (f : Heap → Option (V × Heap)) (hide : List Nat) : Prop :=
  ∀ H r, f H = some r → ∃ tl, r.2 = H ++ tl ∧ ∀ H' : Heap, H'.length = H.length → (∀ k, k ∉ hide → H'[k]? = H[k]?) → f H' = some (r.1, H' ++ tl)

theorem wr_store {k o : Nat} {vs : List V} {H' : Heap} (h : wr H k o vs = some H') : ∃ b, k < H.length ∧ H' = H.set k b ∧ ∀ G : Heap, G[k]? = H[k]? → wr G k o vs = some (G.set k b) := by
  unfold wr at h
  split at h
  · rename_i cs m hk
    split at h
    · cases h
    · rename_i hm
      split at h
      · rename_i hl
        split at h
        · rename_i hs
          cases h
          refine ⟨_, (List.getElem?_eq_some_iff.1 hk).1, rfl, fun G e => ?_⟩
          unfold wr
          rw [e, hk]
          simp [hm, hl, hs]
        · cases h
      · cases h
  · cases h

theorem store_F {d : DM × Ins} {x : X} (h : kd d = .store x) : FStore (act call N d τ) (ev τ x).blk? := by
  obtain ⟨m, g, i, dst⟩ := d
  intro H r hr
  unfold kd at h
  cases m <;> cases i <;> simp [I.cl] at h
  subst h
  simp only [act, aop] at hr ⊢
  split at hr
  · rename_i k o cs hk hc
    simp only [hk, hc, V.blk?]
    split at hr
    · rename_i hn
      simp only [Option.map_eq_some_iff] at hr
      obtain ⟨H1, hw, hr⟩ := hr
      cases hr
      obtain ⟨b, h1, h2, h3⟩ := wr_store hw
      exact ⟨k, b, rfl, h1, h2, fun G e => by simp [hn, h3 G e]⟩
    · cases hr
  · cases hr

theorem hole_F {d : DM × Ins} {j : Nat} (h : kd d = .hole j) : FHole (act call N d τ) (N + j) := by
  obtain ⟨m, dst, i, g⟩ := d
  intro H r hr
  have hm : m = .hole j := by
    unfold kd at h
    cases m <;> cases i <;> simp [I.cl] at h <;> rw [h]
  subst hm
  simp only [act] at hr ⊢
  split at hr
  · rename_i b mk hb
    split at hr
    · rename_i hd
      cases hr
      exact ⟨hd, b, rfl, fun H' e => by simp [hb, e]⟩
    · cases hr
  · cases hr

theorem plain_of {d : DM × Ins} {x : X} (h : kd d = .load x) : d.1 = .plain ∧ d.2.i.cl = .load x := by
  obtain ⟨m, dst, i, g⟩ := d
  unfold kd at h
  cases m <;> cases hc : i.cl <;> simp [hc] at h
  subst h; exact ⟨rfl, rfl⟩
theorem load_F {d : DM × Ins} {x : X} (h : kd d = .load x) : FLoad (act call N d τ) (ev τ x).blk? := by
  obtain ⟨h1, h2⟩ := plain_of h
  intro H r hr
  unfold act at hr ⊢
  rw [h1] at hr ⊢
  obtain ⟨a, b, c⟩ := load_reads h2 hr
  exact ⟨a, b, fun H' e => c call H' e⟩
theorem pure_F {d : DM × Ins} (h : kd d = .pure) : FPure (act call N d τ) := by
  have : d.1 = .plain ∧ d.2.i.cl = .pure := by
    obtain ⟨m, dst, i, g⟩ := d
    unfold kd at h
    cases m <;> cases hc : i.cl <;> simp [hc] at h
    exact ⟨rfl, rfl⟩
  obtain ⟨h1, h2⟩ := this
  intro H r hr
  unfold act at hr ⊢
  rw [h1] at hr ⊢
  obtain ⟨a, b⟩ := pure_any h2 hr
  exact ⟨a, fun H' => b call H'⟩

theorem pc_F {d : DM × Ins} {hide : List Nat} (h : kd d = .pc hide) : FPc (act call N d τ) (hide.map (N + ·)) := by
  have : d.1 = .pcall hide ∧ ∃ f args, d.2.i = .call f args := by
    obtain ⟨m, dst, i, g⟩ := d
    unfold kd at h
    cases m <;> cases i <;> simp [I.cl] at h
    subst h; exact ⟨rfl, _, _, rfl⟩
  obtain ⟨h1, f, args, h2⟩ := this
  intro H r hr
  unfold act at hr ⊢
  rw [h1, h2] at hr
  rw [h1, h2]
  have key : ∀ t us, pcall call (hide.map (N + ·)) t us H = some r → ∃ tl, r.2 = H ++ tl ∧ ∀ H' : Heap, H'.length = H.length → (∀ k, k ∉ hide.map (N + ·) → H'[k]? = H[k]?) → pcall call (hide.map (N + ·)) t us H' = some (r.1, H' ++ tl) := by
    intro t us hp
    obtain ⟨v, R⟩ := r
    obtain ⟨Hp, hc, rfl⟩ := pcall_of hp
    refine ⟨_, rfl, fun H' hl he => ?_⟩
    have hprot : prot (hide.map (N + ·)) H' = prot (hide.map (N + ·)) H := by
      refine List.ext_getElem? fun k => ?_
      rw [getElem?_prot, getElem?_prot]
      by_cases hk : k ∈ hide.map (N + ·)
      · by_cases hlt : k < H.length
        · rw [List.getElem?_eq_getElem (by omega : k < H'.length), List.getElem?_eq_getElem hlt]; simp only [Option.map_some, if_pos hk]
        · rw [List.getElem?_eq_none (by omega), List.getElem?_eq_none (by omega)]
      · rw [he k hk]
    unfold pcall
    rw [hprot, hc, hl]
    rfl
  simp only [aop] at hr ⊢
  split at hr
  · exact key _ _ hr
  · exact key _ _ hr
  · cases hr

theorem cellsOf_at {size : Nat} {y : V} {ys : List V} (h : cellsOf H size y = some ys) {H' : Heap} (e : ∀ k, y.blk? = some k → H'[k]? = H[k]?) : cellsOf H' size y = some ys := by
  cases y <;> simp only [cellsOf] at h ⊢ <;> first | exact h | cases h | skip
  exact (rdn_at h).2 H' (e _ rfl)

theorem app_F {d : DM × Ins} {x y : X} (h : kd d = .app x y) : FApp (act call N d τ) (ev τ x).blk? (ev τ y).blk? := by
  have : d.1 = .plain ∧ ∃ s b, d.2.i = .append s b x y := by
    obtain ⟨m, dst, i, g⟩ := d
    unfold kd at h
    cases m <;> cases i <;> simp [I.cl] at h
    obtain ⟨rfl, rfl⟩ := h; exact ⟨rfl, _, _, rfl⟩
  obtain ⟨h1, size, bytes, h2⟩ := this
  intro H r hr
  unfold act at hr ⊢
  rw [h1, h2] at hr
  rw [h1, h2]
  simp only [aop] at hr ⊢
  unfold appendv at hr
  split at hr
  case h_2 => cases hr
  rename_i m ys hm hys
  split at hr
  · cases hr
  rename_i hsc
  split at hr
  · rename_i hx
    split at hr
    · rename_i h0
      cases hr
      refine ⟨none, [], by simp [setmo], (fun _ _ h => by cases h), fun H' _ _ e2 => ?_⟩
      unfold appendv
      simp [hm, cellsOf_at hys e2, hsc, hx, h0, setmo]
    · rename_i h0
      split at hr
      · rename_i hb
        cases hr
        refine ⟨none, _, by simp only [setmo]; rfl, (fun _ _ h => by cases h), fun H' hl _ e2 => ?_⟩
        unfold appendv
        simp [hm, cellsOf_at hys e2, hsc, hx, h0, setmo, hb, hl]
      · cases hr
  · rename_i k o len cap hx
    simp only [hx, V.blk?, Option.some.injEq]
    split at hr
    case h_2 => cases hr
    rename_i cs md hk
    split at hr
    case isFalse => cases hr
    rename_i hle
    split at hr
    · rename_i hcap
      split at hr
      case h_2 => cases hr
      rename_i H1 hw
      cases hr
      obtain ⟨b, hkl, rfl, h3⟩ := wr_store hw
      refine ⟨some (k, b), [], by simp [setmo], (fun _ _ h => by cases h; exact ⟨rfl, hkl⟩), fun H' hl e1 e2 => ?_⟩
      unfold appendv
      simp [hm, cellsOf_at hys e2, hsc, setmo, e1 k rfl, hk, hle, hcap, h3 H' (e1 k rfl)]
    · rename_i hcap
      split at hr
      case isFalse => cases hr
      rename_i hb
      split at hr
      · cases hr
        refine ⟨none, _, by simp only [setmo]; rfl, (fun _ _ h => by cases h), fun H' hl e1 e2 => ?_⟩
        unfold appendv
        simp [hm, cellsOf_at hys e2, hsc, setmo, e1 k rfl, hk, hle, hcap, hb, hl]
      · split at hr
        case isFalse => cases hr
        rename_i hes
        cases hr
        refine ⟨some (k, .dead), _, by simp only [setmo]; rfl, (fun _ _ h => by cases h; exact ⟨rfl, (List.getElem?_eq_some_iff.1 hk).1⟩), fun H' hl e1 e2 => ?_⟩
        unfold appendv
        have hle' : len * size ≤ cs.length := by omega
        simp [hm, cellsOf_at hys e2, hsc, setmo, e1 k rfl, hk, hle, hcap, hb, hl, hes, hle']
      · cases hr
  · cases hr

/-! ### The one map: an entry asked for behind a look -/
theorem keyEq_eq {a b : V} (h : keyEq a b = some true) : a = b := by
  unfold keyEq at h
  split at h
  · split at h
    · rename_i hk; subst hk; simp at h; subst h; rfl
    · cases h
  · split at h
    · rename_i hk; obtain ⟨rfl, rfl⟩ := hk; simp at h; obtain ⟨rfl, rfl⟩ := h; rfl
    · cases h
  · cases h

theorem findk_at {x : V} : ∀ {es : List (V × V)} {i j : Nat} {v : V}, findk x es i = some (some (j, v)) → i ≤ j ∧ es[j - i]? = some (x, v)
  | [], i, j, v, h => by simp [findk] at h
  | e :: es, i, j, v, h => by
    simp only [findk] at h
    split at h
    · rename_i hk
      cases h
      have := keyEq_eq hk
      subst this
      simp
    · obtain ⟨h1, h2⟩ := findk_at h
      refine ⟨by omega, ?_⟩
      rw [show j - i = (j - (i + 1)) + 1 by omega]
      simpa using h2
    · cases h

theorem findk_push {x v : V} (hx : keyEq x x = some true) : ∀ {es : List (V × V)} {i : Nat}, findk x es i = some none → findk x (es ++ [(x, v)]) i = some (some (i + es.length, v))
  | [], i, h => by simp [findk, hx]
  | e :: es, i, h => by
    simp only [findk, List.cons_append] at h ⊢
    split at h
    · cases h
    · rw [findk_push hx h]
      simp
      omega
    · cases h
theorem keyEq_self {kk : KK} {x : V} (h : keyWf kk x = true) : keyEq x x = some true := by
  unfold keyWf at h
  split at h
  · simp [keyEq]
  · simp [keyEq]
  · cases h

theorem sameZero_inv {i j : I} (h : sameZero i j = true) : ∃ kk z a k, i = .lookup kk z false (.t a) (.t k) ∧ j = .mapent kk z (.t a) (.t k) := by
  cases i <;> (try (simp [sameZero] at h; done))
  cases j <;> (try (simp [sameZero] at h; done))
  rename_i kk z ok m k kk' z' m' k'
  cases ok <;> (try (simp [sameZero] at h; done))
  cases m <;> (try (simp [sameZero] at h; done))
  cases k <;> (try (simp [sameZero] at h; done))
  cases m' <;> (try (simp [sameZero] at h; done))
  cases k' <;> (try (simp [sameZero] at h; done))
  cases z <;> (try (simp [sameZero] at h; done))
  cases z' <;> (try (simp [sameZero] at h; done))
  simp [sameZero] at h
  obtain ⟨⟨⟨rfl, rfl⟩, rfl⟩, rfl, rfl⟩ := h
  exact ⟨_, _, _, _, rfl, rfl⟩

theorem ment_swap {x y : DM × Ins} {a b : X} (hx : kd x = .load a) (hy : kd y = .ment b) (hs : sameZero x.2.i y.2.i = true) {v1 v2 : V} {H1 H2 : Heap} (h1 : act call N x τ H = some (v1, H1)) (h2 : act call N y τ H1 = some (v2, H2)) :
    act call N y τ H = some (v2, H2) ∧ act call N x τ H2 = some (v1, H2) := by
  obtain ⟨e1, e2⟩ := plain_of hx
  have e3 : y.1 = .plain := by
    obtain ⟨m, dst, i, g⟩ := y
    unfold kd at hy
    cases m <;> cases hc : i.cl <;> simp [hc] at hy
    rfl
  obtain ⟨kk, z, a, k, i1, i2⟩ := sameZero_inv hs
  unfold act at h1 h2 ⊢
  rw [e1, i1] at h1 ⊢
  rw [e3, i2] at h2 ⊢
  simp only at h1 h2 ⊢
  simp only [aop, ev] at h1 h2 ⊢
  generalize τ a = m at h1 h2 ⊢
  generalize τ k = key at h1 h2 ⊢
  cases m <;> simp only at h2 <;> (try (cases h2; done))
  rename_i q
  have hH : H1 = H := by
    simp only [mapOf] at h1
    split at h1
    · split at h1 <;> first | (cases h1; rfl) | cases h1
    · cases h1
  subst hH
  refine ⟨h2, ?_⟩
  simp only [mapOf] at h1 ⊢
  cases he : mpAt H1 q with
  | none => rw [he] at h1; cases h1
  | some es =>
    rw [he] at h1 h2
    simp only at h1 h2
    have hq : H1[q]? = some (.mp es) := by
      unfold mpAt at he
      split at he
      · rename_i hq; cases he; exact hq
      · cases he
    have hlt : q < H1.length := (List.getElem?_eq_some_iff.1 hq).1
    have hset : ∀ es', mpAt (H1.set q (.mp es')) q = some es' := fun es' => by simp [mpAt, hlt]
    unfold keyf at h1 h2 ⊢
    by_cases hwf : keyWf kk key = true
    case neg => rw [if_neg hwf] at h1; cases h1
    rw [if_pos hwf] at h1 h2
    cases hf : findk key es 0 with
    | none => rw [hf] at h1; cases h1
    | some r =>
      rw [hf] at h1 h2
      cases r with
      | none =>
        cases h1; cases h2
        rw [hset]
        simp only [if_pos hwf]
        rw [findk_push (keyEq_self hwf) hf]
        rfl
      | some p =>
        obtain ⟨i, u⟩ := p
        cases h1; cases h2
        have hi := (findk_at hf).2
        simp only [Nat.sub_zero] at hi
        have : es.set i (key, u) = es := by
          refine List.ext_getElem? fun j => ?_
          rw [List.getElem?_set]
          split
          · rename_i e; subst e; split
            · exact hi.symm
            · rename_i hn; rw [hi] ; simp_all
          · rfl
        rw [hset, this]
        simp only [if_pos hwf, hf]

/-! ### Change of places -/
theorem setmo_length (H : Heap) (mo : Option (Nat × Blk)) : (setmo H mo).length = H.length := by
  cases mo with
  | none => rfl
  | some p => obtain ⟨k, b⟩ := p; simp [setmo]
theorem setmo_get {H : Heap} {mo : Option (Nat × Blk)} {k : Nat} (h : ∀ b, mo ≠ some (k, b)) : (setmo H mo)[k]? = H[k]? := by
  cases mo with
  | none => rfl
  | some p =>
    obtain ⟨j, b⟩ := p
    simp only [setmo]
    rw [List.getElem?_set_ne]
    intro e; subst e; exact h b rfl

theorem chk_ne {a b : X} (h : Chk.ok N nh τ (.ne a b) = true) {k : Nat} (ha : (ev τ a).blk? = some k) : (ev τ b).blk? ≠ some k := by
  intro hb
  simp only [Chk.ok, ha, hb] at h
  simp at h
theorem chk_nh {a : X} {j : Nat} (h : Chk.ok N nh τ (.nh a j) = true) : (ev τ a).blk? ≠ some (N + j) := by
  intro hb
  simp only [Chk.ok, hb] at h
  simp at h
theorem chk_lt {a : X} (h : Chk.ok N nh τ (.lt a) = true) {k : Nat} (ha : (ev τ a).blk? = some k) : k < N + nh := by
  simp only [Chk.ok, ha] at h
  simpa using h

theorem act_swap {x y : DM × Ins} {cks : List Chk} (hp : pairK (kd x) (kd y) (sameZero x.2.i y.2.i) = some cks) (hck : ∀ c ∈ cks, Chk.ok N nh τ c = true) (hN : N + nh ≤ H.length) (hj : ∀ j, kd y = .hole j → j < nh)
    {v1 v2 : V} {H1 H2 : Heap} (h1 : act call N x τ H = some (v1, H1)) (h2 : act call N y τ H1 = some (v2, H2)) :
    ∃ H1', act call N y τ H = some (v2, H1') ∧ act call N x τ H1' = some (v1, H2) := by
  by_cases hxp : kd x = .pure
  · obtain ⟨e1, e2⟩ := pure_F hxp _ _ h1
    simp only at e1; subst e1
    exact ⟨H2, h2, e2 H2⟩
  by_cases hyp : kd y = .pure
  · obtain ⟨e1, e2⟩ := pure_F hyp _ _ h2
    simp only at e1; subst e1
    exact ⟨H, e2 H, h1⟩
  cases hx : kd x <;> cases hy : kd y <;> simp only [hx, hy, pairK] at hp hxp hyp <;> (try (cases hp; done)) <;> (try (exact absurd trivial hxp)) <;> (try (exact absurd trivial hyp))
  case load.load a b =>
    obtain ⟨e1, _, e2⟩ := load_F hx _ _ h1
    obtain ⟨e3, _, e4⟩ := load_F hy _ _ h2
    simp only at e1 e3; subst e1; subst e3
    exact ⟨_, h2, h1⟩
  case load.hole a j =>
    obtain ⟨e1, e1', e2⟩ := load_F hx _ _ h1
    simp only at e1; subst e1
    obtain ⟨e3, b, e4, e5⟩ := hole_F hy _ _ h2
    simp only at e4; subst e4
    refine ⟨_, e5 _ e3, e2 _ fun k hk => ?_⟩
    obtain ⟨c, hc, hl⟩ := e1' k hk
    rw [List.getElem?_set_ne]
    intro e; subst e; rw [e3] at hc; cases hc; simp [Blk.live] at hl
  case load.store a b =>
    cases hp
    obtain ⟨e1, e1', e2⟩ := load_F hx _ _ h1
    simp only at e1; subst e1
    obtain ⟨k, c, e3, e4, e5, e6⟩ := store_F hy _ _ h2
    simp only at e5; subst e5
    refine ⟨_, e6 _ rfl, e2 _ fun j hj' => ?_⟩
    have := chk_ne (hck (.ne a b) (by simp)) hj'
    rw [List.getElem?_set_ne]
    intro e; subst e; exact this e3
  case load.app a b c =>
    cases hp
    obtain ⟨e1, e1', e2⟩ := load_F hx _ _ h1
    simp only at e1; subst e1
    obtain ⟨mo, tl, e3, e4, e5⟩ := app_F hy _ _ h2
    simp only at e3; subst e3
    refine ⟨_, e5 _ rfl (fun _ _ => rfl) (fun _ _ => rfl), e2 _ fun j hj' => ?_⟩
    have := chk_ne (hck (.ne a b) (by simp)) hj'
    obtain ⟨d, hd, _⟩ := e1' j hj'
    have hlt : j < (setmo H1 mo).length := by rw [setmo_length]; exact (List.getElem?_eq_some_iff.1 hd).1
    rw [List.getElem?_append_left hlt]
    exact setmo_get fun d hd => this (e4 _ _ hd).1
  case load.pc a hide =>
    obtain ⟨e1, e1', e2⟩ := load_F hx _ _ h1
    simp only at e1; subst e1
    obtain ⟨tl, e3, e4⟩ := pc_F hy _ _ h2
    simp only at e3; subst e3
    refine ⟨_, e4 _ rfl (fun _ _ => rfl), e2 _ fun j hj' => ?_⟩
    obtain ⟨d, hd, _⟩ := e1' j hj'
    rw [List.getElem?_append_left (List.getElem?_eq_some_iff.1 hd).1]
  case load.ment a b =>
    split at hp
    · rename_i hs
      obtain ⟨e1, e2⟩ := ment_swap hx hy hs h1 h2
      exact ⟨_, e1, e2⟩
    · cases hp
  case hole.load j b =>
    cases hp
    obtain ⟨e1, c, e2, e3⟩ := hole_F hx _ _ h1
    simp only at e2; subst e2
    obtain ⟨e4, e5, e6⟩ := load_F hy _ _ h2
    simp only at e4; subst e4
    refine ⟨_, e6 H fun k hk => ?_, e3 _ e1⟩
    rw [List.getElem?_set_ne]
    intro e; subst e; exact chk_nh (hck (.nh b j) (by simp)) hk
  case hole.hole i j =>
    split at hp
    · cases hp
    · rename_i hij
      obtain ⟨e1, c, e2, e3⟩ := hole_F hx _ _ h1
      simp only at e2; subst e2
      obtain ⟨e4, d, e5, e6⟩ := hole_F hy _ _ h2
      simp only at e5; subst e5
      rw [List.getElem?_set_ne (by omega)] at e4
      refine ⟨_, e6 _ e4, ?_⟩
      rw [e3 _ (by rw [List.getElem?_set_ne (by omega)]; exact e1), List.set_comm _ _ (by omega)]
  case hole.store j b =>
    cases hp
    obtain ⟨e1, c, e2, e3⟩ := hole_F hx _ _ h1
    simp only at e2; subst e2
    obtain ⟨k, d, e4, e5, e6, e7⟩ := store_F hy _ _ h2
    simp only at e6; subst e6
    have hne : k ≠ N + j := fun e => chk_nh (hck (.nh b j) (by simp)) (e ▸ e4)
    refine ⟨_, e7 H (by rw [List.getElem?_set_ne (by omega)]), ?_⟩
    rw [e3 _ (by rw [List.getElem?_set_ne hne]; exact e1), List.set_comm _ _ hne]
  case app.load a c b =>
    cases hp
    obtain ⟨mo, tl, e1, e2, e3⟩ := app_F hx _ _ h1
    simp only at e1; subst e1
    obtain ⟨e4, e5, e6⟩ := load_F hy _ _ h2
    simp only at e4; subst e4
    refine ⟨_, e6 H fun k hk => ?_, h1⟩
    have hlt := chk_lt (hck (.lt b) (by simp)) hk
    rw [List.getElem?_append_left (by rw [setmo_length]; omega)]
    refine (setmo_get fun d hd => ?_).symm
    exact chk_ne (hck (.ne a b) (by simp)) (e2 _ _ hd).1 hk
  case app.hole a c j =>
    cases hp
    have hjl := hj j hy
    obtain ⟨mo, tl, e1, e2, e3⟩ := app_F hx _ _ h1
    simp only at e1; subst e1
    obtain ⟨e4, d, e5, e6⟩ := hole_F hy _ _ h2
    simp only at e5; subst e5
    have hna := chk_nh (hck (.nh a j) (by simp))
    have hnc := chk_nh (hck (.nh c j) (by simp))
    have hmo : ∀ b, mo ≠ some (N + j, b) := fun b hb => hna (e2 _ _ hb).1
    rw [List.getElem?_append_left (by rw [setmo_length]; omega), setmo_get hmo] at e4
    refine ⟨_, e6 H e4, ?_⟩
    rw [e3 _ (by simp) (fun k hk => by rw [List.getElem?_set_ne]; intro e; subst e; exact hna hk) (fun k hk => by rw [List.getElem?_set_ne]; intro e; subst e; exact hnc hk)]
    rw [List.set_append_left _ _ (by rw [setmo_length]; omega)]
    congr 3
    cases mo with
    | none => rfl
    | some p =>
      obtain ⟨k, b⟩ := p
      simp only [setmo]
      exact List.set_comm _ _ (fun e => hmo b (by rw [e]))
  case pc.load hide b =>
    cases hp
    obtain ⟨tl, e1, e2⟩ := pc_F hx _ _ h1
    simp only at e1; subst e1
    obtain ⟨e4, e5, e6⟩ := load_F hy _ _ h2
    simp only at e4; subst e4
    refine ⟨_, e6 H fun k hk => ?_, h1⟩
    have hlt := chk_lt (hck (.lt b) (by simp)) hk
    rw [List.getElem?_append_left (by omega)]
  case pc.hole hide j =>
    split at hp
    · rename_i hmem
      have hjl := hj j hy
      obtain ⟨tl, e1, e2⟩ := pc_F hx _ _ h1
      simp only at e1; subst e1
      obtain ⟨e4, d, e5, e6⟩ := hole_F hy _ _ h2
      simp only at e5; subst e5
      rw [List.getElem?_append_left (by omega)] at e4
      refine ⟨_, e6 H e4, ?_⟩
      rw [e2 _ (by simp) (fun k hk => by
        rw [List.getElem?_set_ne]
        intro e; subst e
        exact hk (List.mem_map.2 ⟨j, by simpa using hmem, rfl⟩))]
      rw [List.set_append_left _ _ (by omega)]
    · cases hp
end Go.Ar
